/-
  Contracts of hasSection and PathsBusy, the program's and the reference's.
-/
import Derived.Test.YtjppkcfbhhjniaaPathVs
namespace Go.Proofs.Ytjppkcfbhhjniaa
open Go.RowKit
set_option linter.unusedVariables false

/-- Are they paths of a line that has the section? -/
def hasS (n : Int) (D : Nat → PD) (m : Nat) (k : Int) : Bool := pathsV n D m && decide (0 ≤ k ∧ k < n)
theorem hasS_iff {n : Int} {D : Nat → PD} {m : Nat} {k : Int} : hasS n D m k = true ↔ pathsV n D m = true ∧ 0 ≤ k ∧ k < n := by simp [hasS]
theorem hasS_no1 {n : Int} {D : Nat → PD} {m : Nat} {k : Int} (h : pathsV n D m = false) : hasS n D m k = false := by simp [hasS, h]
theorem hasS_no2 {n : Int} {D : Nat → PD} {m : Nat} {k : Int} (h : ¬ (0 ≤ k ∧ k < n)) : hasS n D m k = false := by unfold hasS; rw [decide_eq_false h]; simp
theorem hasS_yes {n : Int} {D : Nat → PD} {m : Nat} {k : Int} (h : pathsV n D m = true) (h2 : 0 ≤ k ∧ k < n) : hasS n D m k = true := by simp [hasS, h, h2]
/-- What is known of each path of a line. -/
theorem pathsV_at {n : Int} {D : Nat → PD} {m : Nat} (h : pathsV n D m = true) {i : Nat} (hi : i < m) : ((D i).m1 : Int) = n ∧ ((D i).m2 : Int) = n ∧ ∀ k : Nat, (k : Int) < n → 0 ≤ (D i).f1 k ∧ (D i).f1 k < (D i).f2 k ∧ (D i).f2 k ≤ 2000 := by
  obtain ⟨_, _, _, hF⟩ := pathsV_iff.1 h
  have hv := (hF i hi).1
  obtain ⟨_, _, h1, h2, _⟩ := pathV_iff.1 hv
  exact ⟨h1, h2, fun k hk => pathV_times hv hk⟩
theorem iPathsV_is (v : Bool) (A : Option Addr) (m c : Nat) (D : Nat → PD) (n : Int) (w : World) (hv : pathsV n D m = v) (h : PsRn w w.heap.size A m D) (hm : m ≤ 1099511627776) :
    Calls Try.prog 27 #[.int .i64 n, .slice A m c] w fun e w' => e = .returned (.bool v) ∧ Below w.heap.size w w' := by rw [← hv]; exact iPathsV A m c D n w h hm
theorem sPathsV_is (v : Bool) (A : Option Addr) (m c : Nat) (D : Nat → PD) (n : Int) (w : World) (hv : pathsV n D m = v) (h : PsRn w w.heap.size A m D) (hm : m ≤ 1099511627776) :
    Calls Try.prog 37 #[.int .i64 n, .slice A m c] w fun e w' => e = .returned (.bool v) ∧ Below w.heap.size w w' := by rw [← hv]; exact sPathsV A m c D n w h hm
theorem iHasS (A : Option Addr) (m c : Nat) (D : Nat → PD) (n k : Int) (w : World) (h : PsRn w w.heap.size A m D) (hm : m ≤ 1099511627776) :
    Calls Try.prog 50 #[.int .i64 n, .slice A m c, .int .i64 k] w fun e w' => e = .returned (.bool (hasS n D m k)) ∧ Below w.heap.size w w' := by
  cases hv : pathsV n D m
  · have hr := hide (hasS_no1 (k := k) hv)
    have V := Lib.hid hv
    clear hv
    go_enter Try.func50, Try.ntmps50
    go_wp2_with fail
    refine (iPathsV_is false A m c D n _ V.out h hm).mono ?_
    rintro e w1 ⟨rfl, hb⟩
    go_wp2
    go_ret
    exact ⟨ret_bool hr.symm, hb⟩
  have V := Lib.hid hv
  clear hv
  by_cases h0 : 0 ≤ k
  · by_cases h1 : k < n
    · have hr := hide (hasS_yes V.out ⟨h0, h1⟩)
      go_enter Try.func50, Try.ntmps50
      go_wp2_with fail
      refine (iPathsV_is true A m c D n _ V.out h hm).mono ?_
      rintro e w1 ⟨rfl, hb⟩
      go_wp2
      go_ret
      exact ⟨ret_bool (by first | (rw [hr.out]; done) | (rw [hr.out]; simp; done) | (rw [hr.out]; simp; omega)), hb⟩
    · have hr := hide (hasS_no2 (n := n) (D := D) (m := m) (k := k) (by omega))
      go_enter Try.func50, Try.ntmps50
      go_wp2_with fail
      refine (iPathsV_is true A m c D n _ V.out h hm).mono ?_
      rintro e w1 ⟨rfl, hb⟩
      go_wp2
      go_ret
      exact ⟨ret_bool (by first | (rw [hr.out]; done) | (rw [hr.out]; simp; done) | (rw [hr.out]; simp; omega)), hb⟩
  · have hr := hide (hasS_no2 (n := n) (D := D) (m := m) (k := k) (by omega))
    go_enter Try.func50, Try.ntmps50
    go_wp2_with fail
    refine (iPathsV_is true A m c D n _ V.out h hm).mono ?_
    rintro e w1 ⟨rfl, hb⟩
    go_wp2
    go_ret
    exact ⟨ret_bool (by first | (rw [hr.out]; done) | (rw [hr.out]; simp; done) | (rw [hr.out]; simp; omega)), hb⟩
theorem iHasS_is (v : Bool) (A : Option Addr) (m c : Nat) (D : Nat → PD) (n k : Int) (w : World) (hv : hasS n D m k = v) (h : PsRn w w.heap.size A m D) (hm : m ≤ 1099511627776) :
    Calls Try.prog 50 #[.int .i64 n, .slice A m c, .int .i64 k] w fun e w' => e = .returned (.bool v) ∧ Below w.heap.size w w' := by rw [← hv]; exact iHasS A m c D n k w h hm
/-- How long a section is busy. -/
def busy (D : Nat → PD) (k : Nat) : Nat → Int
  | 0 => 0
  | i + 1 => busy D k i + ((D i).f2 k - (D i).f1 k)
theorem busy_bd {n : Int} {D : Nat → PD} {m : Nat} (h : pathsV n D m = true) {k : Nat} (hk : (k : Int) < n) : ∀ i, i ≤ m → 0 ≤ busy D k i ∧ busy D k i ≤ 2000 * i := by
  intro i
  induction i with
  | zero => intro _; simp [busy]
  | succ i ih =>
    intro hi
    have h1 := ih (by omega)
    have h2 := (pathsV_at h (show i < m by omega)).2.2 k hk
    simp only [busy]
    omega
def busyV (n : Int) (D : Nat → PD) (m : Nat) (k : Int) : Int := if hasS n D m k = true then busy D k.toNat m else -1
theorem busyV_no {n : Int} {D : Nat → PD} {m : Nat} {k : Int} (h : hasS n D m k = false) : busyV n D m k = -1 := if_neg (by simp [h])
theorem busyV_yes {n : Int} {D : Nat → PD} {m k : Nat} (h : hasS n D m k = true) : busyV n D m k = busy D k m := by rw [busyV, if_pos h, Int.toNat_natCast]
set_option maxHeartbeats 2000000 in
theorem iBusy_yes (A : Option Addr) (m c : Nat) (D : Nat → PD) (n : Int) (k : Nat) (w : World) (h : PsRn w w.heap.size A m D) (hv : hasS n D m k = true) :
    Calls Try.prog 15 #[.int .i64 n, .slice A m c, .int .i64 (k : Int)] w fun e w' => e = .returned (.int .i64 (busy D k m)) ∧ Below w.heap.size w w' := by
  obtain ⟨hpv, h0, hkn⟩ := hasS_iff.1 hv
  have hm8 : m ≤ 8 := (pathsV_iff.1 hpv).2.2.1
  have V := Lib.hid hv
  have PV := Lib.hid hpv
  clear hv hpv
  go_enter Try.func15, Try.ntmps15
  go_wp2_with fail
  refine (iHasS_is true A m c D n k _ V.out h (by omega)).mono ?_
  rintro e w1 ⟨rfl, hb⟩
  have hp := h.below hb
  clear h
  go_wp2
  go_loopw [7, 16] (fun v i wr => ∃ (j : Nat) (t : Int), j ≤ m ∧ i = .int .i64 j ∧ v = .int .i64 t ∧ Hid (busy D k j = t) ∧ PsRn wr w.heap.size A m D ∧ Below w.heap.size w wr) (fun _ i _ => m - (intOf i).toNat)
  case atStart => exact ⟨0, 0, Nat.zero_le _, rfl, rfl, rfl, hp, hb⟩
  case round =>
    clear hp hb
    obtain ⟨j, t, hj, rfl, rfl, hT, hp, hb⟩ := hrel
    by_cases hlt : j < m
    · obtain ⟨b, off, a1, c1, a2, c2, n1, f1, n2, f2, rfl, hbB, hD, x0, x1, r1, r2⟩ := hp.at_ hlt
      have hat := pathsV_at PV.out hlt
      have hbd := busy_bd PV.out hkn j hj
      rw [hT.out] at hbd
      have hst : Hid (busy D k (j + 1) = t + (f2 k - f1 k)) := by show busy D k j + ((D j).f2 k - (D j).f1 k) = _; rw [hT.out, hD]
      rw [hD] at hat
      obtain ⟨hn1, hn2, ht⟩ := hat
      have ht2 := ht k hkn
      simp only at hn1 hn2 ht2
      obtain ⟨d1, o1, rfl, hd1, hc1⟩ := r1 (by omega)
      obtain ⟨d2, o2, rfl, hd2, hc2⟩ := r2 (by omega)
      have z1 := hc1 k (by omega)
      have z2 := hc2 k (by omega)
      obtain ⟨b1, b2, b3⟩ := ht2
      have i0 : (0 : Int) ≤ (j : Int) := by omega
      have i1 : (j : Int) < (m : Int) := by omega
      have i2 : (0 : Int) ≤ (k : Int) := by omega
      have i3 : (k : Int) < (n1 : Int) := by omega
      have i4 : (k : Int) < (n2 : Int) := by omega
      have w1 : IntKind.i64.wrap (f2 k - f1 k) = f2 k - f1 k := IntWalk.i64_in _ (by omega)
      have w2 : IntKind.i64.wrap (t + (f2 k - f1 k)) = t + (f2 k - f1 k) := IntWalk.i64_in _ (by omega)
      clear hc1 hc2 ht hD hn1 hn2 hbd r1 r2
      go_wp2
      go_quiet (fail)
      clear w1 w2
      go_wp2
      go_roundw
      case rel => exact ⟨j + 1, _, by omega, by go_num, rfl, hst, hp.drewN _, below_dn hb _⟩
      case measure => simp [intOf]; omega
    · obtain rfl : j = m := by omega
      go_wp2
      go_ret
      exact ⟨ret_int hT.out.symm, hb⟩
theorem iBusy_no (A : Option Addr) (m c : Nat) (D : Nat → PD) (n k : Int) (w : World) (h : PsRn w w.heap.size A m D) (hm : m ≤ 1099511627776) (hv : hasS n D m k = false) :
    Calls Try.prog 15 #[.int .i64 n, .slice A m c, .int .i64 k] w fun e w' => e = .returned (.int .i64 (-1)) ∧ Below w.heap.size w w' := by
  have V := Lib.hid hv
  clear hv
  go_enter Try.func15, Try.ntmps15
  go_wp2_with fail
  refine (iHasS_is false A m c D n k _ V.out h hm).mono ?_
  rintro e w1 ⟨rfl, hb⟩
  go_wp2
  go_ret
  exact ⟨rfl, hb⟩
set_option maxHeartbeats 2000000 in
theorem sBusy_yes (A : Option Addr) (m c : Nat) (D : Nat → PD) (n : Int) (k : Nat) (w : World) (h : PsRn w w.heap.size A m D) (hv : hasS n D m k = true) :
    Calls Try.prog 16 #[.int .i64 n, .slice A m c, .int .i64 (k : Int)] w fun e w' => e = .returned (.int .i64 (busy D k m)) ∧ Below w.heap.size w w' := by
  obtain ⟨hpv, h0, hkn⟩ := hasS_iff.1 hv
  have hm8 : m ≤ 8 := (pathsV_iff.1 hpv).2.2.1
  have hn1 : 1 ≤ n := (pathsV_iff.1 hpv).1
  have hn5 : n ≤ 5 := (pathsV_iff.1 hpv).2.1
  have hk0 : (0 : Int) ≤ (k : Int) ∧ (k : Int) ≤ n - 1 := by omega
  have V := Lib.hid hv
  have PV := Lib.hid hpv
  clear hv hpv
  go_enter Try.func16, Try.ntmps16
  go_wp2_with fail
  refine (sPathsV_is true A m c D n _ PV.out h (by omega)).mono ?_
  rintro e w1 ⟨rfl, hb⟩
  have hp := h.below hb
  clear h
  go_wp2_with (go_at_call 51; refine (sIn_yes _ _ _ _ hk0).mono ?_; rintro e w' ⟨rfl, rfl⟩)
  go_loopw [7, 8] (fun v i wr => ∃ (j : Nat) (t : Int), j ≤ m ∧ i = .int .i64 j ∧ v = .int .i64 t ∧ Hid (busy D k j = t) ∧ PsRn wr w.heap.size A m D ∧ Below w.heap.size w wr) (fun _ i _ => m - (intOf i).toNat)
  case atStart => exact ⟨0, 0, Nat.zero_le _, rfl, rfl, rfl, hp, hb⟩
  case round =>
    clear hp hb
    obtain ⟨j, t, hj, rfl, rfl, hT, hp, hb⟩ := hrel
    by_cases hlt : j < m
    · obtain ⟨b, off, a1, c1, a2, c2, n1, f1, n2, f2, rfl, hbB, hD, x0, x1, r1, r2⟩ := hp.at_ hlt
      have hat := pathsV_at PV.out hlt
      have hbd := busy_bd PV.out hkn j hj
      rw [hT.out] at hbd
      have hst : Hid (busy D k (j + 1) = t + f2 k - f1 k) := by show busy D k j + ((D j).f2 k - (D j).f1 k) = _; rw [hT.out, hD]; show t + (f2 k - f1 k) = _; omega
      rw [hD] at hat
      obtain ⟨hn1, hn2, ht⟩ := hat
      have ht2 := ht k hkn
      simp only at hn1 hn2 ht2
      obtain ⟨d1, o1, rfl, hd1, hc1⟩ := r1 (by omega)
      obtain ⟨d2, o2, rfl, hd2, hc2⟩ := r2 (by omega)
      have z1 := hc1 k (by omega)
      have z2 := hc2 k (by omega)
      obtain ⟨b1, b2, b3⟩ := ht2
      have i0 : (0 : Int) ≤ (j : Int) := by omega
      have i1 : (j : Int) < (m : Int) := by omega
      have i2 : (0 : Int) ≤ (k : Int) := by omega
      have i3 : (k : Int) < (n1 : Int) := by omega
      have i4 : (k : Int) < (n2 : Int) := by omega
      have w1 : IntKind.i64.wrap (t + f2 k) = t + f2 k := IntWalk.i64_in _ (by omega)
      have w2 : IntKind.i64.wrap (t + f2 k - f1 k) = t + f2 k - f1 k := IntWalk.i64_in _ (by omega)
      clear hc1 hc2 ht hD hn1 hn2 hbd r1 r2
      go_wp2
      go_quiet (fail)
      clear w1 w2
      go_wp2
      go_roundw
      case rel => exact ⟨j + 1, _, by omega, by go_num, rfl, hst, hp.drewN _, below_dn hb _⟩
      case measure => simp [intOf]; omega
    · obtain rfl : j = m := by omega
      go_wp2
      go_ret
      exact ⟨ret_int hT.out.symm, hb⟩
theorem sBusy_no (A : Option Addr) (m c : Nat) (D : Nat → PD) (n k : Int) (w : World) (h : PsRn w w.heap.size A m D) (hm : m ≤ 1099511627776) (hv : hasS n D m k = false) :
    Calls Try.prog 16 #[.int .i64 n, .slice A m c, .int .i64 k] w fun e w' => e = .returned (.int .i64 (-1)) ∧ Below w.heap.size w w' := by
  cases hpv : pathsV n D m
  · have V := Lib.hid hpv
    clear hv hpv
    go_enter Try.func16, Try.ntmps16
    go_wp2_with fail
    refine (sPathsV_is false A m c D n _ V.out h hm).mono ?_
    rintro e w1 ⟨rfl, hb⟩
    go_wp2
    go_ret
    exact ⟨rfl, hb⟩
  · have hn1 : 1 ≤ n := (pathsV_iff.1 hpv).1
    have hn5 : n ≤ 5 := (pathsV_iff.1 hpv).2.1
    have hk : ¬ (0 ≤ k ∧ k ≤ n - 1) := fun x => by rw [hasS_yes hpv (by omega)] at hv; cases hv
    have V := Lib.hid hpv
    clear hv hpv
    go_enter Try.func16, Try.ntmps16
    go_wp2_with fail
    refine (sPathsV_is true A m c D n _ V.out h hm).mono ?_
    rintro e w1 ⟨rfl, hb⟩
    go_wp2_with (go_at_call 51; refine (sIn_no _ _ _ _ hk).mono ?_; rintro e w' ⟨rfl, rfl⟩)
    go_ret
    exact ⟨rfl, hb⟩
end Go.Proofs.Ytjppkcfbhhjniaa
