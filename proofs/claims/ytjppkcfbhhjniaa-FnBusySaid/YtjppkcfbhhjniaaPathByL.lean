/-
  The walk of FnBusy.
-/
import Derived.Test.YtjppkcfbhhjniaaPathOrL
namespace Go.Proofs.Ytjppkcfbhhjniaa
open Go.RowKit Go.Deep
set_option linter.unusedVariables false

theorem busy_ord (D : Nat → PD) (k : Nat) (f : Nat → Int) : ∀ m, ((ordN f m).map fun x => (D x).f2 k - (D x).f1 k).sum = busy D k m := by
  intro m
  induction m with
  | zero => simp [ordN, busy]
  | succ m ih => rw [ordN, ins_sum, ih, busy]; omega
theorem busy_spans (D : Nat → PD) (k m : Nat) : spans (fun i => (D i).f1 k) (fun i => (D i).f2 k) m m = busy D k m := by
  rw [spans_all]; exact busy_ord D k _ m
set_option maxHeartbeats 4000000 in
theorem y_FnBusy (a0 : Option Addr) (len0 cap0 : Nat) (w : World) (hA : BytesAt w.heap.size w a0 len0) (hl : len0 ≤ 1048576) (hc : len0 ≤ cap0) (hm : cap0 ≤ 9223372036854775807) :
    Calls Try.prog 3 #[.slice a0 len0 cap0] w fun e w' => e = .returned (.bool true) ∧ Below w.heap.size w w' := by
  have hAH := Lib.hid hA
  have hd0 : decide ((1048576 : Int) < (len0 : Int)) = false := by simp; omega
  clear hA
  go_enter Try.func3, Try.ntmps3
  go_wp2_with fail
  refine (d_DrawPathsBusy a0 len0 cap0 w hAH.out hl hc hm).mono ?_
  rintro e wb ⟨n, g, m, c, D, k, rfl, hn, hm10, hD, hp, hb⟩
  clear hc hm hAH hl hd0
  have HB := Lib.hid hb
  have P0 := Lib.hid hp
  clear hb hp
  cases hv : hasS n D m k
  · have VV := Lib.hid hv
    clear hv
    go_wp2_with fail
    refine (iBusy_no _ m c D n k _ P0.out (by omega) VV.out).mono ?_
    rintro e w1 ⟨rfl, hb1⟩
    have P1 := Lib.hid (P0.out.topb hb1)
    go_wp2_with fail
    refine (sBusy_no _ m c D n k _ P1.out (by omega) VV.out).mono ?_
    rintro e w2 ⟨rfl, hb2⟩
    have hb2 := bl hb1 (Nat.le_refl _) hb2
    clear hb1 P1
    go_wp2
    go_ret
    exact ⟨rfl, bl HB.out (Nat.le_refl _) hb2⟩
  obtain ⟨hpv, hk0, hkn⟩ := hasS_iff.1 hv
  obtain ⟨j, rfl⟩ := Int.eq_ofNat_of_zero_le hk0
  have hm8 : m ≤ 8 := (pathsV_iff.1 hpv).2.2.1
  have PV := Lib.hid hpv
  have VV := Lib.hid hv
  have hsec := sec_of hpv hkn
  have hbb := busy_bd hpv hkn m (Nat.le_refl _)
  have hbs := busy_spans D j m
  obtain ⟨bz, hbz⟩ : ∃ b, busy D j m = b := ⟨_, rfl⟩
  rw [hbz] at hbb hbs
  have hI := fun (W : World) (A : Option Addr) (c : Nat) (h : PsRn W W.heap.size A m D) => iBusy_yes A m c D n j W h hv
  have hS := fun (W : World) (A : Option Addr) (c : Nat) (h : PsRn W W.heap.size A m D) => sBusy_yes A m c D n j W h hv
  have hO := fun (W : World) (A : Option Addr) (c : Nat) (h : PsRn W W.heap.size A m D) => (iOrd_yes A m c D n j W h hv).mono fun _ _ h => h.ord
  rw [hbz] at hI hS
  obtain ⟨F, hF⟩ : ∃ F : Nat → Int, (fun i => (D i).f1 j) = F := ⟨_, rfl⟩
  obtain ⟨G, hG⟩ : ∃ G : Nat → Int, (fun i => (D i).f2 j) = G := ⟨_, rfl⟩
  rw [hF, hG] at hsec hbs
  rw [hF] at hO
  have I := Lib.hid hI
  have S := Lib.hid hS
  have O := Lib.hid hO
  have SE := Lib.hid hsec
  have BS := Lib.hid hbs
  have HF := Lib.hid hF
  have HG := Lib.hid hG
  have db : decide (bz < 0) = false := decide_eq_false (by omega)
  clear hpv hI hS hO hsec hbs
  go_wp2_with fail
  refine (I.out _ _ _ P0.out).mono ?_
  rintro e w1 ⟨rfl, hb1⟩
  have P1 := Lib.hid (P0.out.topb hb1)
  go_wp2_with fail
  refine (S.out _ _ _ P1.out).mono ?_
  rintro e w2 ⟨rfl, hb2⟩
  have P2 := Lib.hid (P1.out.topb hb2)
  have hbw := bl hb1 (Nat.le_refl _) hb2
  clear hb1 hb2 P1 P0 I S
  go_wp2_with fail
  refine (O.out _ _ _ P2.out).mono ?_
  rintro e w3 ⟨g1, c1, rfl, hg1, ho1, hb3⟩
  have P3 := Lib.hid (P2.out.topb hb3)
  have hb3 := bl hbw (Nat.le_refl _) hb3
  have HB3 := Lib.hid (bl HB.out (Nat.le_refl _) hb3)
  have O1 := Lib.hid ho1
  clear ho1 hbw P2 HB O hb3
  by_cases h2 : m < 2
  · have d2 : decide ((m : Int) < 2) = true := decide_eq_true (by omega)
    have d3 : decide (m < 2) = true := decide_eq_true (by omega)
    rcases (show m = 0 ∨ m = 1 by omega) with rfl | rfl
    · have hz : bz = 0 := by rw [← hbz]; rfl
      subst hz
      have z0 : decide ((0 : Int) < ((0 : Nat) : Int)) = false := rfl
      have z1 : decide ((0 : Int) < (0 : Int)) = false := rfl
      clear hbz d2 d3 h2
      go_wp2
      go_ret
      exact ⟨rfl, HB3.out⟩
    · have z0 : decide ((0 : Int) < ((1 : Nat) : Int)) = true := rfl
      have z1 : decide ((0 : Int) < (1 : Int)) = true := rfl
      clear hbz d2 d3 h2
      go_wp2
      go_ret
      exact ⟨rfl, HB3.out⟩
  obtain ⟨s, rfl⟩ : ∃ s, m = s + 1 := ⟨m - 1, by omega⟩
  obtain ⟨V, hV⟩ : ∃ V, gapT F G (s + 1) s = V := ⟨_, rfl⟩
  have hGP := fun (W : World) (A : Option Addr) (c : Nat) (h : PsRn W W.heap.size A (s + 1) D) => iGap_yes A (s + 1) c D n j W h hv (by omega)
  rw [hF, hG, show s + 1 - 1 = s by omega, hV] at hGP
  have GP := Lib.hid hGP
  have hVb := SE.out.gap_bd (t := s) (by omega)
  rw [hV] at hVb
  have hle := SE.out.spans_le (t := s) (by omega) V (fun p hp => by rw [← hV]; exact gapT_le F G (s + 1) hp)
  rw [BS.out] at hle
  obtain ⟨off0, e0, hgb, hfz, hcc⟩ := O1.out (by omega)
  have e1 := slice_off e0
  subst e1
  have y0 := hcc 0 (by omega)
  have y1 := hcc s (by omega)
  simp only [Nat.zero_add] at y0 y1
  obtain ⟨x, hx⟩ : ∃ x, ordAt F (s + 1) s = x := ⟨_, rfl⟩
  obtain ⟨z, hz⟩ : ∃ z, ordAt F (s + 1) 0 = z := ⟨_, rfl⟩
  have hxm : x < s + 1 := by rw [← hx]; exact ordAt_lt (by omega)
  have hzm : z < s + 1 := by rw [← hz]; exact ordAt_lt (by omega)
  rw [hx] at y1 hle
  rw [hz] at y0 hle
  obtain ⟨a1, k1, a2, k2, n1, f1, n2, f2, hD1, x0, x1, r1, r2⟩ := psRn_at0 P3.out hxm
  obtain ⟨a1', k1', a2', k2', n1', f1', n2', f2', hD', x0', x1', r1', r2'⟩ := psRn_at0 P3.out hzm
  have atx := pathsV_at PV.out hxm
  have atz := pathsV_at PV.out hzm
  have hGx : G x = f2 j := by rw [← HG.out]; simp only [hD1]
  have hFz : F z = f1' j := by rw [← HF.out]; simp only [hD']
  rw [hD1] at atx
  rw [hD'] at atz
  obtain ⟨-, l1, bx⟩ := atx
  obtain ⟨l2, -, bzz⟩ := atz
  have bx := bx j hkn
  have bzz := bzz j hkn
  simp only at l1 l2 bx bzz
  obtain ⟨s1, o1, rfl, hd1, hc1⟩ := r2 (by omega)
  obtain ⟨s2, o2, rfl, hd2, hc2⟩ := r1' (by omega)
  have v1 := hc1 j (by omega)
  have v2 := hc2 j (by omega)
  rw [hGx, hFz] at hle
  generalize f2 j = ux at *
  generalize f1' j = uz at *
  have hVs : 0 ≤ V * (s : Int) ∧ V * (s : Int) ≤ 16000 := by
    have h1 : V * (s : Int) ≤ 2000 * (s : Int) := Int.mul_le_mul_of_nonneg_right hVb.2 (by omega)
    exact ⟨Int.mul_nonneg hVb.1 (by omega), by omega⟩
  have d2 : decide (((s + 1 : Nat) : Int) < 2) = false := decide_eq_false (by omega)
  have d3 : decide ((s : Int) + 1 < 2) = false := decide_eq_false (by omega)
  have d4 : decide (s + 1 < 2) = false := decide_eq_false (by omega)
  have dl : decide (bz + V * (s : Int) ≤ ux - uz) = true := decide_eq_true hle
  have w1' : IntKind.i64.wrap ((s : Int) + 1 - 1) = (s : Int) := by rw [show (s : Int) + 1 - 1 = s by omega]; exact IntWalk.i64_in _ (by omega)
  have w2' : IntKind.i64.wrap (s : Int) = (s : Int) := IntWalk.i64_in _ (by omega)
  have w3' : IntKind.i64.wrap (V * (s : Int)) = V * (s : Int) := IntWalk.i64_in _ (by omega)
  have w4' : IntKind.i64.wrap (bz + V * (s : Int)) = bz + V * (s : Int) := IntWalk.i64_in _ (by omega)
  have w5' : IntKind.i64.wrap (ux - uz) = ux - uz := IntWalk.i64_in _ (by omega)
  have j0 : (0 : Int) ≤ (s : Int) := by omega
  have j1 : (s : Int) < (s : Int) + 1 := by omega
  have j2 : (0 : Int) < (s : Int) + 1 := by omega
  have j4 : (x : Int) < (s : Int) + 1 := by omega
  have j5 : (z : Int) < (s : Int) + 1 := by omega
  have j7 : (j : Int) < (n2 : Int) := by omega
  have j8 : (j : Int) < (n1' : Int) := by omega
  have j9 : (0 : Int) ≤ (x : Int) := by omega
  have j10 : (0 : Int) ≤ (z : Int) := by omega
  have j11 : (0 : Int) ≤ (j : Int) := by omega
  have j12 : s < s + 1 := by omega
  have j13 : 0 < s + 1 := by omega
  have lg : g < w3.heap.size := by obtain ⟨b, off, e, hb, _⟩ := P3.out (by omega); simp only [Option.some.injEq, Addr.mk.injEq, and_true] at e; omega
  have GPV := Lib.hid (GP.out w3.drew _ c P3.out.topd)
  clear hcc hfz e0 hc1 hc2 hx hz hGx hFz hD1 hD' r1 r2 r1' r2' x0 x1' l1 l2 hle hV hGP GP O1 SE BS hbz hF hG hv h2 hVs
  go_wp2
  go_region_held3 (fun V' => V'.cell? ⟨g1, 0, none⟩ = some (.int .i64 (z : Int)) ∧ V'.cell? ⟨g, x * 2 + 1, none⟩ = some (.slice (some ⟨s1, o1, none⟩) n2 k2) ∧ V'.cell? ⟨g, z * 2, none⟩ = some (.slice (some ⟨s2, o2, none⟩) n1' k1') ∧ V'.cell? ⟨s1, o1 + j, none⟩ = some (.int .i64 ux) ∧ V'.cell? ⟨s2, o2 + j, none⟩ = some (.int .i64 uz)) (go_keep)
    ((go_at_call 18; refine GPV.out.mono ?_; rintro e w4 ⟨rfl, hb4⟩; have hb4 := undrew hb4; have := (hb4.cell (p := ⟨g1, 0, none⟩) hgb).trans y0; have := (hb4.cell (p := ⟨g, x * 2 + 1, none⟩) lg).trans x1; have := (hb4.cell (p := ⟨g, z * 2, none⟩) lg).trans x0'; have := (hb4.cell (p := ⟨s1, o1 + j, none⟩) hd1).trans v1; have := (hb4.cell (p := ⟨s2, o2 + j, none⟩) hd2).trans v2; have HB4 := Lib.hid (bl HB3.out (Nat.le_refl _) hb4); clear hb4))
  all_goals
    clear w1' w2' w3' w4' w5'
    go_wp2
    go_ret
    exact ⟨rfl, HB4.out⟩
theorem w_FnBusy (a0 : Option Addr) (len0 cap0 : Nat) (z0 : List Int) (w : World) (w0 : IsRow .u8 w a0 len0 cap0 z0) :
    Calls Try.prog 3 #[.slice a0 len0 cap0] w fun e w' => e = .returned (.bool true) ∧ Below w.heap.size w w' := by
  obtain ⟨hA, hc, hm⟩ := w0.bytes
  by_cases hs0 : 1048576 < len0
  · have hd0 : decide ((1048576 : Int) < (len0 : Int)) = true := by simp; omega
    clear w0 hA
    go_enter Try.func3, Try.ntmps3
    go_wp2
    go_ret
    exact ⟨rfl, Below.refl _ _⟩
  · exact y_FnBusy a0 len0 cap0 w hA (by omega) hc hm
end Go.Proofs.Ytjppkcfbhhjniaa
