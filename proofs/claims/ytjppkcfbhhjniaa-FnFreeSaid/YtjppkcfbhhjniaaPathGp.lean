/-
  Contracts of PathsGap, the program's and the reference's.
-/
import Derived.Test.YtjppkcfbhhjniaaPathOi
namespace Go.Proofs.Ytjppkcfbhhjniaa
open Go.RowKit Go.Deep
set_option linter.unusedVariables false

theorem ite_min (a b : Int) : (if a < b then a else b) = min b a := by split <;> omega
set_option maxHeartbeats 4000000 in
theorem iGap_yes (A : Option Addr) (m c : Nat) (D : Nat → PD) (n : Int) (k : Nat) (w : World) (h : PsRn w w.heap.size A m D) (hv : hasS n D m k = true) (h2 : 2 ≤ m) :
    Calls Try.prog 18 #[.int .i64 n, .slice A m c, .int .i64 (k : Int)] w fun e w' => e = .returned (.int .i64 (gapT (fun i => (D i).f1 k) (fun i => (D i).f2 k) m (m - 1))) ∧ Below w.heap.size w w' := by
  obtain ⟨hpv, h0, hkn⟩ := hasS_iff.1 hv
  have hm8 : m ≤ 8 := (pathsV_iff.1 hpv).2.2.1
  have SE := Lib.hid (sec_of hpv hkn)
  have PV := Lib.hid hpv
  have VV := Lib.hid hv
  have P0 := Lib.hid h
  have d2 : decide ((m : Int) < 2) = false := decide_eq_false (by omega)
  have d3 : decide (m < 2) = false := decide_eq_false (by omega)
  obtain ⟨F, hF⟩ : ∃ F : Nat → Int, (fun i => (D i).f1 k) = F := ⟨_, rfl⟩
  obtain ⟨G, hG⟩ : ∃ G : Nat → Int, (fun i => (D i).f2 k) = G := ⟨_, rfl⟩
  rw [hF, hG]
  have HF := Lib.hid hF
  have HG := Lib.hid hG
  clear hpv hv h hF hG
  go_enter Try.func18, Try.ntmps18
  go_wp2_with fail
  refine (iOrd_yes A m c D n k w P0.out VV.out).mono ?_
  rintro e w1 ⟨g, cp, rfl, ⟨hg1, hg2⟩, ho, hb⟩
  rw [ord_len] at ho
  rw [ord_len]
  have hs := hb.size
  have O0 := Lib.hid ho
  clear ho
  go_wp2_with fail
  go_loopw [9, 10] (fun v i wr => ∃ (t : Nat) (u : Int), t + 1 ≤ m ∧ i = .int .i64 ((t : Int) + 1) ∧ v = .int .i64 u ∧ Hid (gapT F G m t = u) ∧ (0 ≤ u ∧ u ≤ 2000) ∧ ∃ q, wr = w1.drewN q) (fun _ i _ => m - (intOf i).toNat)
  case atStart => exact ⟨0, 2000, by omega, by simp, rfl, rfl, by omega, 0, rfl⟩
  case round =>
    clear d2 d3
    obtain ⟨t, u, ht, rfl, rfl, hU, hu, q, rfl⟩ := hrel
    by_cases hlt : t + 1 < m
    · obtain ⟨off0, e0, hgb, hfz, hcc⟩ := O0.out (by omega)
      simp only [Option.some.injEq, Addr.mk.injEq, true_and, and_true] at e0
      obtain rfl : off0 = 0 := e0.symm
      have y0 := hcc t (by omega)
      have y1 := hcc (t + 1) hlt
      simp only [Nat.zero_add] at y0 y1
      obtain ⟨x, hx⟩ : ∃ x, ordAt F m (t + 1) = x := ⟨_, rfl⟩
      obtain ⟨z, hz⟩ : ∃ z, ordAt F m t = z := ⟨_, rfl⟩
      have hxm : x < m := by have := ordAt_lt (f := F) hlt; omega
      have hzm : z < m := by have := ordAt_lt (f := F) (show t < m by omega); omega
      have hy1 : ((ordN (fun i => (D i).f1 k) m).getD (t + 1) 0) = x := by rw [HF.out]; exact hx
      have hy0 : ((ordN (fun i => (D i).f1 k) m).getD t 0) = z := by rw [HF.out]; exact hz
      rw [hy1] at y1
      rw [hy0] at y0
      have hgb2 := SE.out.gap_bd (t := t + 1) hlt
      rw [HF.out, HG.out] at hgb2
      have hP := P0.out.below (hb)
      obtain ⟨b, off, a1, c1, a2, c2, n1, f1, n2, f2, rfl, hbB, hD, x0, x1, r1, r2⟩ := hP.at_ hxm
      obtain ⟨b', off', a1', c1', a2', c2', n1', f1', n2', f2', eA, hbB', hD', x0', x1', r1', r2'⟩ := hP.at_ hzm
      simp only [Option.some.injEq, Addr.mk.injEq, and_true] at eA
      obtain ⟨rfl, rfl⟩ := eA
      have atx := pathsV_at PV.out hxm
      have atz := pathsV_at PV.out hzm
      have hFx : F x = f1 k := by rw [← HF.out]; simp only [hD]
      have hGz : G z = f2' k := by rw [← HG.out]; simp only [hD']
      rw [hD] at atx
      rw [hD'] at atz
      obtain ⟨l1, -, bx⟩ := atx
      obtain ⟨-, l2, bz⟩ := atz
      have bx := bx k hkn
      have bz := bz k hkn
      simp only at l1 l2 bx bz
      obtain ⟨s1, o1, rfl, hd1, hc1⟩ := r1 (by omega)
      obtain ⟨s2, o2, rfl, hd2, hc2⟩ := r2' (by omega)
      have v1 := hc1 k (by omega)
      have v2 := hc2 k (by omega)
      have hstep : gapT F G m (t + 1) = min u (f1 k - f2' k) := by rw [gapT, hU.out, hx, hz, hFx, hGz]
      rw [hstep] at hgb2
      have HS := Lib.hid hstep
      generalize f1 k = ux at *
      generalize f2' k = uz at *
      have y3 : IntKind.i64.wrap (ux - uz) = ux - uz := IntWalk.i64_in _ (by omega)
      have y4 : IntKind.i64.wrap ((t : Int) + 1 - 1) = (t : Int) := by rw [show (t : Int) + 1 - 1 = t by omega]; exact IntWalk.i64_in _ (by omega)
      have y5 : IntKind.i64.wrap (t : Int) = (t : Int) := IntWalk.i64_in _ (by omega)
      have j0 : (0 : Int) ≤ (t : Int) := by omega
      have j1 : (t : Int) < (m : Int) := by omega
      have j2 : (0 : Int) ≤ (t : Int) + 1 := by omega
      have j3 : (t : Int) + 1 < (m : Int) := by omega
      have j4 : (x : Int) < (m : Int) := by omega
      have j5 : (z : Int) < (m : Int) := by omega
      have j6 : (0 : Int) ≤ (k : Int) := by omega
      have j7 : (k : Int) < (n1 : Int) := by omega
      have j8 : (k : Int) < (n2' : Int) := by omega
      have j9 : (0 : Int) ≤ (x : Int) := by omega
      have j10 : (0 : Int) ≤ (z : Int) := by omega
      clear hcc hc1 hc2 hx hz hy0 hy1 hFx hGz hD hD' r1 r2 r1' r2' hP x1 x0' l1 l2 hstep hfz
      have HH : ∃ T : Int, Hid (min u (ux - uz) = T) ∧ 0 ≤ T ∧ T ≤ 2000 := ⟨_, rfl, hgb2.1, hgb2.2⟩
      obtain ⟨T, hT, hT1, hT2⟩ := HH
      clear hgb2
      go_wp2
      go_region_held3 (fun V => V.cell? ⟨g, t + 1, none⟩ = some (.int .i64 (x : Int)) ∧ V.cell? ⟨g, t, none⟩ = some (.int .i64 (z : Int)) ∧ V.cell? ⟨b, off + x * 2, none⟩ = some (.slice (some ⟨s1, o1, none⟩) n1 c1) ∧ V.cell? ⟨b, off + z * 2 + 1, none⟩ = some (.slice (some ⟨s2, o2, none⟩) n2' c2') ∧ V.cell? ⟨s1, o1 + k, none⟩ = some (.int .i64 ux) ∧ V.cell? ⟨s2, o2 + k, none⟩ = some (.int .i64 uz)) (go_keep) (fail)
      clear y3 y4 y5
      go_wp2
      go_roundw
      case rel => exact ⟨t + 1, T, by omega, by go_num, int_eq (by rw [ite_min]; exact hT.out), by show gapT F G m (t + 1) = T; rw [HS.out, hT.out], ⟨hT1, hT2⟩, _, rfl⟩
      case measure => simp [intOf]; omega
    · obtain rfl : m = t + 1 := by omega
      have hr := hide hU.out
      clear hU
      go_wp2
      go_ret
      exact ⟨ret_int hr.out.symm, below_dn hb _⟩
theorem iGap_no (A : Option Addr) (m c : Nat) (D : Nat → PD) (n k : Int) (w : World) (h : PsRn w w.heap.size A m D) (hm : m ≤ 1099511627776) (hv : hasS n D m k = false) :
    Calls Try.prog 18 #[.int .i64 n, .slice A m c, .int .i64 k] w fun e w' => e = .returned (.int .i64 (-1)) ∧ Below w.heap.size w w' := by
  have V := Lib.hid hv
  clear hv
  go_enter Try.func18, Try.ntmps18
  go_wp2_with fail
  refine (iOrd_no A m c D n k w h hm V.out).mono ?_
  rintro e w1 ⟨g, cp, rfl, ⟨hg1, hg2⟩, ho, hb⟩
  clear ho h
  go_wp2
  go_ret
  exact ⟨rfl, hb⟩
theorem iGap_few (A : Option Addr) (m c : Nat) (D : Nat → PD) (n : Int) (k : Nat) (w : World) (h : PsRn w w.heap.size A m D) (hv : hasS n D m k = true) (h2 : m < 2) :
    Calls Try.prog 18 #[.int .i64 n, .slice A m c, .int .i64 (k : Int)] w fun e w' => e = .returned (.int .i64 (-1)) ∧ Below w.heap.size w w' := by
  have V := Lib.hid hv
  have d2 : decide ((m : Int) < 2) = true := decide_eq_true (by omega)
  have d3 : decide (m < 2) = true := decide_eq_true (by omega)
  clear hv h2
  go_enter Try.func18, Try.ntmps18
  go_wp2_with fail
  refine (iOrd_yes A m c D n k w h V.out).mono ?_
  rintro e w1 ⟨g, cp, rfl, ⟨hg1, hg2⟩, ho, hb⟩
  rw [ord_len]
  clear ho h
  go_wp2
  go_ret
  exact ⟨rfl, hb⟩
set_option maxHeartbeats 4000000 in
theorem sGap_yes (A : Option Addr) (m c : Nat) (D : Nat → PD) (n : Int) (k : Nat) (w : World) (h : PsRn w w.heap.size A m D) (hv : hasS n D m k = true) (h2 : 2 ≤ m) :
    Calls Try.prog 49 #[.int .i64 n, .slice A m c, .int .i64 (k : Int)] w fun e w' => e = .returned (.int .i64 (gapT (fun i => (D i).f1 k) (fun i => (D i).f2 k) m (m - 1))) ∧ Below w.heap.size w w' := by
  obtain ⟨hpv, h0, hkn⟩ := hasS_iff.1 hv
  have hm8 : m ≤ 8 := (pathsV_iff.1 hpv).2.2.1
  have SE := Lib.hid (sec_of hpv hkn)
  have PV := Lib.hid hpv
  have VV := Lib.hid hv
  have P0 := Lib.hid h
  have d2 : decide ((m : Int) < 2) = false := decide_eq_false (by omega)
  have d3 : decide (m < 2) = false := decide_eq_false (by omega)
  obtain ⟨F, hF⟩ : ∃ F : Nat → Int, (fun i => (D i).f1 k) = F := ⟨_, rfl⟩
  obtain ⟨G, hG⟩ : ∃ G : Nat → Int, (fun i => (D i).f2 k) = G := ⟨_, rfl⟩
  rw [hF, hG]
  have HF := Lib.hid hF
  have HG := Lib.hid hG
  clear hpv hv h hF hG
  go_enter Try.func49, Try.ntmps49
  go_wp2_with fail
  refine (sOrd_yes A m c D n k w P0.out VV.out).mono ?_
  rintro e w1 ⟨g, cp, rfl, ⟨hg1, hg2⟩, ho, hb⟩
  rw [ord_len] at ho
  rw [ord_len]
  have hs := hb.size
  have O0 := Lib.hid ho
  clear ho
  go_wp2_with fail
  go_loopw [9, 10] (fun v i wr => ∃ (t : Nat) (u : Int), t + 1 ≤ m ∧ i = .int .i64 ((t : Int) + 1) ∧ v = .int .i64 u ∧ Hid (gapT F G m t = u) ∧ (0 ≤ u ∧ u ≤ 2000) ∧ ∃ q, wr = w1.drewN q) (fun _ i _ => m - (intOf i).toNat)
  case atStart => exact ⟨0, 2000, by omega, by simp, rfl, rfl, by omega, 0, rfl⟩
  case round =>
    clear d2 d3
    obtain ⟨t, u, ht, rfl, rfl, hU, hu, q, rfl⟩ := hrel
    by_cases hlt : t + 1 < m
    · obtain ⟨off0, e0, hgb, hfz, hcc⟩ := O0.out (by omega)
      simp only [Option.some.injEq, Addr.mk.injEq, true_and, and_true] at e0
      obtain rfl : off0 = 0 := e0.symm
      have y0 := hcc t (by omega)
      have y1 := hcc (t + 1) hlt
      simp only [Nat.zero_add] at y0 y1
      obtain ⟨x, hx⟩ : ∃ x, ordAt F m (t + 1) = x := ⟨_, rfl⟩
      obtain ⟨z, hz⟩ : ∃ z, ordAt F m t = z := ⟨_, rfl⟩
      have hxm : x < m := by have := ordAt_lt (f := F) hlt; omega
      have hzm : z < m := by have := ordAt_lt (f := F) (show t < m by omega); omega
      have hy1 : ((ordN (fun i => (D i).f1 k) m).getD (t + 1) 0) = x := by rw [HF.out]; exact hx
      have hy0 : ((ordN (fun i => (D i).f1 k) m).getD t 0) = z := by rw [HF.out]; exact hz
      rw [hy1] at y1
      rw [hy0] at y0
      have hgb2 := SE.out.gap_bd (t := t + 1) hlt
      rw [HF.out, HG.out] at hgb2
      have hP := P0.out.below (hb)
      obtain ⟨b, off, a1, c1, a2, c2, n1, f1, n2, f2, rfl, hbB, hD, x0, x1, r1, r2⟩ := hP.at_ hxm
      obtain ⟨b', off', a1', c1', a2', c2', n1', f1', n2', f2', eA, hbB', hD', x0', x1', r1', r2'⟩ := hP.at_ hzm
      simp only [Option.some.injEq, Addr.mk.injEq, and_true] at eA
      obtain ⟨rfl, rfl⟩ := eA
      have atx := pathsV_at PV.out hxm
      have atz := pathsV_at PV.out hzm
      have hFx : F x = f1 k := by rw [← HF.out]; simp only [hD]
      have hGz : G z = f2' k := by rw [← HG.out]; simp only [hD']
      rw [hD] at atx
      rw [hD'] at atz
      obtain ⟨l1, -, bx⟩ := atx
      obtain ⟨-, l2, bz⟩ := atz
      have bx := bx k hkn
      have bz := bz k hkn
      simp only at l1 l2 bx bz
      obtain ⟨s1, o1, rfl, hd1, hc1⟩ := r1 (by omega)
      obtain ⟨s2, o2, rfl, hd2, hc2⟩ := r2' (by omega)
      have v1 := hc1 k (by omega)
      have v2 := hc2 k (by omega)
      have hstep : gapT F G m (t + 1) = min u (f1 k - f2' k) := by rw [gapT, hU.out, hx, hz, hFx, hGz]
      rw [hstep] at hgb2
      have HS := Lib.hid hstep
      generalize f1 k = ux at *
      generalize f2' k = uz at *
      have y3 : IntKind.i64.wrap (ux - uz) = ux - uz := IntWalk.i64_in _ (by omega)
      have y4 : IntKind.i64.wrap ((t : Int) + 1 - 1) = (t : Int) := by rw [show (t : Int) + 1 - 1 = t by omega]; exact IntWalk.i64_in _ (by omega)
      have y5 : IntKind.i64.wrap (t : Int) = (t : Int) := IntWalk.i64_in _ (by omega)
      have j0 : (0 : Int) ≤ (t : Int) := by omega
      have j1 : (t : Int) < (m : Int) := by omega
      have j2 : (0 : Int) ≤ (t : Int) + 1 := by omega
      have j3 : (t : Int) + 1 < (m : Int) := by omega
      have j4 : (x : Int) < (m : Int) := by omega
      have j5 : (z : Int) < (m : Int) := by omega
      have j6 : (0 : Int) ≤ (k : Int) := by omega
      have j7 : (k : Int) < (n1 : Int) := by omega
      have j8 : (k : Int) < (n2' : Int) := by omega
      have j9 : (0 : Int) ≤ (x : Int) := by omega
      have j10 : (0 : Int) ≤ (z : Int) := by omega
      clear hcc hc1 hc2 hx hz hy0 hy1 hFx hGz hD hD' r1 r2 r1' r2' hP x1 x0' l1 l2 hstep hfz
      have HH : ∃ T : Int, Hid (min u (ux - uz) = T) ∧ 0 ≤ T ∧ T ≤ 2000 := ⟨_, rfl, hgb2.1, hgb2.2⟩
      obtain ⟨T, hT, hT1, hT2⟩ := HH
      clear hgb2
      go_wp2
      go_region_held3 (fun V => V.cell? ⟨g, t + 1, none⟩ = some (.int .i64 (x : Int)) ∧ V.cell? ⟨g, t, none⟩ = some (.int .i64 (z : Int)) ∧ V.cell? ⟨b, off + x * 2, none⟩ = some (.slice (some ⟨s1, o1, none⟩) n1 c1) ∧ V.cell? ⟨b, off + z * 2 + 1, none⟩ = some (.slice (some ⟨s2, o2, none⟩) n2' c2') ∧ V.cell? ⟨s1, o1 + k, none⟩ = some (.int .i64 ux) ∧ V.cell? ⟨s2, o2 + k, none⟩ = some (.int .i64 uz)) (go_keep) (fail)
      clear y3 y4 y5
      go_wp2
      go_roundw
      case rel => exact ⟨t + 1, T, by omega, by go_num, int_eq (by rw [ite_min]; exact hT.out), by show gapT F G m (t + 1) = T; rw [HS.out, hT.out], ⟨hT1, hT2⟩, _, rfl⟩
      case measure => simp [intOf]; omega
    · obtain rfl : m = t + 1 := by omega
      have hr := hide hU.out
      clear hU
      go_wp2
      go_ret
      exact ⟨ret_int hr.out.symm, below_dn hb _⟩
theorem sGap_no (A : Option Addr) (m c : Nat) (D : Nat → PD) (n k : Int) (w : World) (h : PsRn w w.heap.size A m D) (hm : m ≤ 1099511627776) (hv : hasS n D m k = false) :
    Calls Try.prog 49 #[.int .i64 n, .slice A m c, .int .i64 k] w fun e w' => e = .returned (.int .i64 (-1)) ∧ Below w.heap.size w w' := by
  have V := Lib.hid hv
  clear hv
  go_enter Try.func49, Try.ntmps49
  go_wp2_with fail
  refine (sOrd_no A m c D n k w h hm V.out).mono ?_
  rintro e w1 ⟨g, cp, rfl, ⟨hg1, hg2⟩, ho, hb⟩
  clear ho h
  go_wp2
  go_ret
  exact ⟨rfl, hb⟩
theorem sGap_few (A : Option Addr) (m c : Nat) (D : Nat → PD) (n : Int) (k : Nat) (w : World) (h : PsRn w w.heap.size A m D) (hv : hasS n D m k = true) (h2 : m < 2) :
    Calls Try.prog 49 #[.int .i64 n, .slice A m c, .int .i64 (k : Int)] w fun e w' => e = .returned (.int .i64 (-1)) ∧ Below w.heap.size w w' := by
  have V := Lib.hid hv
  have d2 : decide ((m : Int) < 2) = true := decide_eq_true (by omega)
  have d3 : decide (m < 2) = true := decide_eq_true (by omega)
  clear hv h2
  go_enter Try.func49, Try.ntmps49
  go_wp2_with fail
  refine (sOrd_yes A m c D n k w h V.out).mono ?_
  rintro e w1 ⟨g, cp, rfl, ⟨hg1, hg2⟩, ho, hb⟩
  rw [ord_len]
  clear ho h
  go_wp2
  go_ret
  exact ⟨rfl, hb⟩
end Go.Proofs.Ytjppkcfbhhjniaa
