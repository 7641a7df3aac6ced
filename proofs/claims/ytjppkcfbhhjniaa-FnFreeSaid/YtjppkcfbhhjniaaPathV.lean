/-
  Contracts: when is a path one? The program's and the reference's.
-/
import Derived.Test.YtjppkcfbhhjniaaPathI
import Derived.Test.YtjppkcfbhhjniaaK1
namespace Go.Proofs.Ytjppkcfbhhjniaa
open Go.RowKit
set_option linter.unusedVariables false

theorem iSec_yes (n : Int) (w : World) (h : 1 ≤ n ∧ n ≤ 5) : Calls Try.prog 58 #[.int .i64 n] w fun e w' => e = .returned (.bool true) ∧ w = w' := by
  go_enter Try.func58, Try.ntmps58
  go_wp2
  go_ret
  exact ⟨ret_bool (by simp), rfl⟩
theorem iSec_no (n : Int) (w : World) (h : ¬ (1 ≤ n ∧ n ≤ 5)) : Calls Try.prog 58 #[.int .i64 n] w fun e w' => e = .returned (.bool false) ∧ w = w' := by
  by_cases h1 : 1 ≤ n
  · have h2 : 5 < n := by omega
    clear h
    go_enter Try.func58, Try.ntmps58
    go_wp2
    go_ret
    exact ⟨ret_bool (by simp [h2]), rfl⟩
  · clear h
    go_enter Try.func58, Try.ntmps58
    go_wp2
    go_ret
    exact ⟨ret_bool (by simp), rfl⟩
theorem timesV_all {n : Int} {p : PD} (h1 : 1 ≤ n ∧ n ≤ 5) (h2 : (p.m1 : Int) = n) (h3 : (p.m2 : Int) = n) (h : timesV p.m1 p.f1 p.f2) : pathV n p = true := by
  rw [pathV_iff]; exact ⟨h1.1, h1.2, h2, h3, by rw [← h2]; simpa using h⟩
theorem timesV_bad {n : Int} {p : PD} {k : Nat} (hk : (k : Int) < n) (h : ¬ (pv p.f2 k ≤ p.f1 k ∧ p.f1 k < p.f2 k ∧ p.f2 k ≤ 2000)) : pathV n p = false :=
  pathV_no (fun x => timesV_no (k := k) (by omega) h x.2.2.2.2)
set_option maxHeartbeats 2000000 in
/-- The program's: behind a pointer. -/
theorem iValid (b off : Nat) (a1 a2 : Option Addr) (n1 c1 n2 c2 : Nat) (f1 f2 : Nat → Int) (n : Int) (w : World) (h0 : w.cell? ⟨b, off, none⟩ = some (.slice a1 n1 c1)) (h1 : w.cell? ⟨b, off + 1, none⟩ = some (.slice a2 n2 c2))
    (r1 : Rn w w.heap.size a1 n1 f1) (r2 : Rn w w.heap.size a2 n2 f2) :
    Calls Try.prog 59 #[.pointer (some ⟨b, off, none⟩), .int .i64 n] w fun e w' => e = .returned (.bool (pathV n ⟨n1, f1, n2, f2⟩)) ∧ ∃ q, w' = w.drewN q := by
  by_cases hn : 1 ≤ n ∧ n ≤ 5
  rotate_left
  · have hr := hide (pathV_no (p := ⟨n1, f1, n2, f2⟩) (fun x => hn ⟨x.1, x.2.1⟩))
    have N := Lib.hid hn
    clear hn
    go_enter Try.func59, Try.ntmps59
    go_wp2_with (go_at_call 58; refine (iSec_no _ _ N.out).mono ?_; rintro e w' ⟨rfl, rfl⟩)
    go_ret
    exact ⟨ret_bool hr.symm, 0, rfl⟩
  by_cases hm1 : (n1 : Int) = n
  rotate_left
  · have hr := hide (pathV_no (p := ⟨n1, f1, n2, f2⟩) (fun x => hm1 x.2.2.1))
    have hd := ne_lit hm1
    have N := Lib.hid hn
    clear hn hm1
    go_enter Try.func59, Try.ntmps59
    go_wp2_with (go_at_call 58; refine (iSec_yes _ _ N.out).mono ?_; rintro e w' ⟨rfl, rfl⟩)
    go_ret
    exact ⟨ret_bool hr.symm, 0, rfl⟩
  by_cases hm2 : (n2 : Int) = n
  rotate_left
  · have hr := hide (pathV_no (p := ⟨n1, f1, n2, f2⟩) (fun x => hm2 x.2.2.2.1))
    have hd := ne_lit hm2
    have hd1 := eq_lit hm1
    have N := Lib.hid hn
    clear hn hm1 hm2
    go_enter Try.func59, Try.ntmps59
    go_wp2_with (go_at_call 58; refine (iSec_yes _ _ N.out).mono ?_; rintro e w' ⟨rfl, rfl⟩)
    go_ret
    exact ⟨ret_bool hr.symm, 0, rfl⟩
  subst hm1
  obtain rfl : n2 = n1 := by omega
  have hd1 : ((n2 : Int) != (n2 : Int)) = false := eq_lit rfl
  have N := Lib.hid hn
  have hn5 : n2 ≤ 5 := by omega
  clear hn hm2
  go_enter Try.func59, Try.ntmps59
  go_wp2_with (go_at_call 58; refine (iSec_yes _ _ N.out).mono ?_; rintro e w' ⟨rfl, rfl⟩)
  go_loopw [5, 29] (fun v i wr => ∃ k : Nat, k ≤ n2 ∧ i = .int .i64 k ∧ v = .int .i64 (pv f2 k) ∧ Hid (timesV k f1 f2) ∧ Hid (∃ q, wr = w.drewN q)) (fun _ i _ => n2 - (intOf i).toNat)
  case atStart => exact ⟨0, Nat.zero_le _, rfl, rfl, timesV_zero _ _, 0, rfl⟩
  case round =>
    obtain ⟨k, hk, rfl, rfl, hT, hq⟩ := hrel
    obtain ⟨q, rfl⟩ := hq.out
    by_cases hlt : k < n2
    · obtain ⟨d1, o1, rfl, hbB, hc⟩ := r1 (by omega)
      obtain ⟨d2, o2, rfl, hbB2, hc2⟩ := r2 (by omega)
      have hcell := hc k hlt
      have hcell2 := hc2 k hlt
      have hk0 : (0 : Int) ≤ (k : Int) := by omega
      have hk1 : (k : Int) < (n2 : Int) := by omega
      clear hc hc2 r1 r2
      by_cases hA : f1 k < pv f2 k
      · have hr := hide (timesV_bad (n := n2) (p := ⟨n2, f1, n2, f2⟩) hk1 (fun x => absurd (show pv f2 k ≤ f1 k from x.1) (by omega)))
        generalize pv f2 k = v at *
        have hd2 : decide (f1 k < v) = true := decide_eq_true hA
        clear hT hA
        go_wp2
        go_quiet (fail)
        go_wp2
        go_ret
        exact ⟨ret_bool hr.symm, drawnq⟩
      by_cases hB : f2 k ≤ f1 k
      · have hr := hide (timesV_bad (n := n2) (p := ⟨n2, f1, n2, f2⟩) hk1 (fun x => absurd (show f1 k < f2 k from x.2.1) (by omega)))
        generalize pv f2 k = v at *
        have hd2 : decide (f1 k < v) = false := decide_eq_false hA
        have hd3 : decide (f2 k ≤ f1 k) = true := decide_eq_true hB
        clear hT hA hB
        go_wp2
        go_quiet (fail)
        go_wp2
        go_ret
        exact ⟨ret_bool hr.symm, drawnq⟩
      by_cases hC : 2000 < f2 k
      · have hr := hide (timesV_bad (n := n2) (p := ⟨n2, f1, n2, f2⟩) hk1 (fun x => absurd (show f2 k ≤ 2000 from x.2.2) (by omega)))
        generalize pv f2 k = v at *
        have hd2 : decide (f1 k < v) = false := decide_eq_false hA
        have hd3 : decide (f2 k ≤ f1 k) = false := decide_eq_false hB
        have hd4 : decide (2000 < f2 k) = true := decide_eq_true hC
        clear hT hA hB hC
        go_wp2
        go_quiet (fail)
        go_wp2
        go_ret
        exact ⟨ret_bool hr.symm, drawnq⟩
      have hst := hide (timesV_step hT.out (by omega) (by omega) (by omega))
      have hpv : pv f2 (k + 1) = f2 k := rfl
      have hP := Lib.hid hpv
      generalize pv f2 k = v at *
      have hd2 : decide (f1 k < v) = false := decide_eq_false hA
      have hd3 : decide (f2 k ≤ f1 k) = false := decide_eq_false hB
      have hd4 : decide (2000 < f2 k) = false := decide_eq_false hC
      clear hT hA hB hC hpv
      go_wp2
      go_quiet (fail)
      go_wp2
      go_roundw
      case rel => exact ⟨k + 1, by omega, by go_num, rfl, hst, _, rfl⟩
      case measure => simp [intOf]; omega
    · obtain rfl : k = n2 := by omega
      have hr := hide (timesV_all (p := ⟨k, f1, k, f2⟩) N.out rfl rfl hT.out)
      go_wp2
      go_ret
      exact ⟨ret_bool hr.symm, _, rfl⟩
/-- l6In. -/
def inB (n lo hi : Int) : Bool := decide (lo ≤ n) && decide (n ≤ hi)
theorem inB_yes {n lo hi : Int} (h : lo ≤ n ∧ n ≤ hi) : inB n lo hi = true := by simp [inB, h]
theorem inB_no {n lo hi : Int} (h : ¬ (lo ≤ n ∧ n ≤ hi)) : inB n lo hi = false := by
  unfold inB; rw [Bool.and_eq_false_iff]; simp only [decide_eq_false_iff_not]; omega
theorem sIn (n lo hi : Int) (w : World) :
    Calls Try.prog 51 #[.int .i64 n, .int .i64 lo, .int .i64 hi] w fun e w' => e = .returned (.bool (inB n lo hi)) ∧ w = w' := by
  by_cases h1 : lo ≤ n
  · by_cases h2 : n ≤ hi
    all_goals
      go_enter Try.func51, Try.ntmps51
      go_wp2
      go_ret
      exact ⟨ret_bool (by simp [inB]; omega), rfl⟩
  · go_enter Try.func51, Try.ntmps51
    go_wp2
    go_ret
    exact ⟨ret_bool (by simp [inB]; omega), rfl⟩
theorem sIn_yes (n lo hi : Int) (w : World) (h : lo ≤ n ∧ n ≤ hi) :
    Calls Try.prog 51 #[.int .i64 n, .int .i64 lo, .int .i64 hi] w fun e w' => e = .returned (.bool true) ∧ w = w' :=
  (sIn n lo hi w).mono fun _ _ ⟨he, hw⟩ => ⟨by rw [he, inB_yes h], hw⟩
theorem sIn_no (n lo hi : Int) (w : World) (h : ¬ (lo ≤ n ∧ n ≤ hi)) :
    Calls Try.prog 51 #[.int .i64 n, .int .i64 lo, .int .i64 hi] w fun e w' => e = .returned (.bool false) ∧ w = w' :=
  (sIn n lo hi w).mono fun _ _ ⟨he, hw⟩ => ⟨by rw [he, inB_no h], hw⟩
theorem sInq (n lo hi : Int) (w : World) :
    Calls Try.prog 51 #[.int .i64 n, .int .i64 lo, .int .i64 hi] w fun e w' => e = .returned (.bool (inB n lo hi)) ∧ ∃ m, w' = w.drewN m :=
  (sIn n lo hi w).mono fun _ _ ⟨he, hw⟩ => ⟨he, 0, hw.symm⟩
theorem pv_nonneg {k : Nat} {f g : Nat → Int} (h : timesV k f g) : 0 ≤ pv g k := by
  cases k with
  | zero => exact Int.le_refl _
  | succ j => have := timesV_nonneg h j (by omega); show 0 ≤ g j; omega
set_option maxHeartbeats 2000000 in
/-- The reference's. -/
theorem sValid (a1 a2 : Option Addr) (n1 c1 n2 c2 : Nat) (f1 f2 : Nat → Int) (n : Int) (w : World) (r1 : Rn w w.heap.size a1 n1 f1) (r2 : Rn w w.heap.size a2 n2 f2) :
    Calls Try.prog 62 #[.int .i64 n, .agg #[.slice a1 n1 c1, .slice a2 n2 c2]] w fun e w' => e = .returned (.bool (pathV n ⟨n1, f1, n2, f2⟩)) ∧ Below w.heap.size w w' := by
  by_cases hn : 1 ≤ n ∧ n ≤ 5
  rotate_left
  · have hr := hide (pathV_no (p := ⟨n1, f1, n2, f2⟩) (fun x => hn ⟨x.1, x.2.1⟩))
    have N := Lib.hid hn
    clear hn
    go_enter Try.func62, Try.ntmps62
    go_wp2_with (go_at_call 51; refine (sIn_no _ _ _ _ N.out).mono ?_; rintro e w' ⟨rfl, rfl⟩)
    go_ret
    exact ⟨ret_bool hr.symm, by go_grown⟩
  by_cases hm1 : (n1 : Int) = n
  rotate_left
  · have hr := hide (pathV_no (p := ⟨n1, f1, n2, f2⟩) (fun x => hm1 x.2.2.1))
    have hd := ne_lit hm1
    have N := Lib.hid hn
    clear hn hm1
    go_enter Try.func62, Try.ntmps62
    go_wp2_with (go_at_call 51; refine (sIn_yes _ _ _ _ N.out).mono ?_; rintro e w' ⟨rfl, rfl⟩)
    go_ret
    exact ⟨ret_bool hr.symm, by go_grown⟩
  by_cases hm2 : (n2 : Int) = n
  rotate_left
  · have hr := hide (pathV_no (p := ⟨n1, f1, n2, f2⟩) (fun x => hm2 x.2.2.2.1))
    have hd := ne_lit hm2
    have hd1 := eq_lit hm1
    have N := Lib.hid hn
    clear hn hm1 hm2
    go_enter Try.func62, Try.ntmps62
    go_wp2_with (go_at_call 51; refine (sIn_yes _ _ _ _ N.out).mono ?_; rintro e w' ⟨rfl, rfl⟩)
    go_ret
    exact ⟨ret_bool hr.symm, by go_grown⟩
  subst hm1
  obtain rfl : n2 = n1 := by omega
  have hd1 : ((n2 : Int) != (n2 : Int)) = false := eq_lit rfl
  have N := Lib.hid hn
  have hn5 : n2 ≤ 5 := by omega
  clear hn hm2
  have hbx : Bx (w.alloc (.cells #[.slice a1 n2 c1, .slice a2 n2 c2] 31)) w.heap.size [.slice a1 n2 c1, .slice a2 n2 c2] := Bx.new w _ _
  have hr1 := r1.alloc (Nat.le_refl _) (.cells #[.slice a1 n2 c1, .slice a2 n2 c2] 31)
  have hr2 := r2.alloc (Nat.le_refl _) (.cells #[.slice a1 n2 c1, .slice a2 n2 c2] 31)
  go_enter Try.func62, Try.ntmps62
  go_wp2_with (go_at_call 51; refine (sIn_yes _ _ _ _ N.out).mono ?_; rintro e w' ⟨rfl, rfl⟩)
  go_loopw [5, 6] (fun v i wr => ∃ k : Nat, k ≤ n2 ∧ i = .int .i64 k ∧ v = .int .i64 (pv f2 k) ∧ Hid (timesV k f1 f2) ∧ Bx wr w.heap.size [.slice a1 n2 c1, .slice a2 n2 c2] ∧ Rn wr w.heap.size a1 n2 f1 ∧ Rn wr w.heap.size a2 n2 f2 ∧ Below w.heap.size w wr) (fun _ i _ => n2 - (intOf i).toNat)
  case atStart => exact ⟨0, Nat.zero_le _, rfl, rfl, timesV_zero _ _, hbx, hr1, hr2, by go_grown⟩
  case round =>
    clear hbx hr1 hr2
    obtain ⟨k, hk, rfl, rfl, hT, hx, q1, q2, hb⟩ := hrel
    have x0 := hx.cell (i := 0) (by simp)
    have x1 := hx.cell (i := 1) (by simp)
    simp only [List.getElem_cons_zero, List.getElem_cons_succ] at x0 x1
    by_cases hlt : k < n2
    · obtain ⟨d1, o1, rfl, hbB, hc⟩ := q1 (by omega)
      obtain ⟨d2, o2, rfl, hbB2, hc2⟩ := q2 (by omega)
      have hcell := hc k hlt
      have hcell2 := hc2 k hlt
      have hk0 : (0 : Int) ≤ (k : Int) := by omega
      have hk1 : (k : Int) < (n2 : Int) := by omega
      have hnn := pv_nonneg hT.out
      clear hc hc2 r1 r2
      by_cases hA : pv f2 k ≤ f1 k ∧ f1 k ≤ 2000
      rotate_left
      · have hr : Hid (pathV n2 ⟨n2, f1, n2, f2⟩ = false) := timesV_bad (n := n2) (p := ⟨n2, f1, n2, f2⟩) hk1 (fun x => by
          have x1 : pv f2 k ≤ f1 k := x.1
          have x2 : f1 k < f2 k := x.2.1
          have x3 : f2 k ≤ 2000 := x.2.2
          omega)
        generalize pv f2 k = v at *
        have hd2 := inB_no hA
        clear hT hA
        go_wp2
        go_quiet ((go_at_call 51; exact Calls.quiet_of (sInq _ _ _ _)))
        go_wp2
        go_ret
        exact ⟨ret_bool hr.symm, below_dn hb _⟩
      by_cases hB : f1 k + 1 ≤ f2 k ∧ f2 k ≤ 2000
      rotate_left
      · have hr : Hid (pathV n2 ⟨n2, f1, n2, f2⟩ = false) := timesV_bad (n := n2) (p := ⟨n2, f1, n2, f2⟩) hk1 (fun x => by
          have x1 : pv f2 k ≤ f1 k := x.1
          have x2 : f1 k < f2 k := x.2.1
          have x3 : f2 k ≤ 2000 := x.2.2
          omega)
        generalize pv f2 k = v at *
        have hd2 := inB_yes hA
        have hd3 := inB_no hB
        have hw1 : IntKind.i64.wrap (f1 k + 1) = f1 k + 1 := IntWalk.i64_in _ (by omega)
        clear hT hA hB
        go_wp2
        go_quiet ((go_at_call 51; exact Calls.quiet_of (sInq _ _ _ _)))
        clear hw1
        go_wp2
        go_ret
        exact ⟨ret_bool hr.symm, below_dn hb _⟩
      have hst := hide (timesV_step hT.out (by omega) (by omega) (by omega))
      have hpv : pv f2 (k + 1) = f2 k := rfl
      have hP := Lib.hid hpv
      generalize pv f2 k = v at *
      have hd2 := inB_yes hA
      have hd3 := inB_yes hB
      have hw1 : IntKind.i64.wrap (f1 k + 1) = f1 k + 1 := IntWalk.i64_in _ (by omega)
      clear hT hA hB hpv
      go_wp2
      go_quiet ((go_at_call 51; exact Calls.quiet_of (sInq _ _ _ _)))
      clear hw1
      go_wp2
      go_roundw
      case rel => exact ⟨k + 1, by omega, by go_num, rfl, hst, hx.of rfl, q1, q2, below_dn hb _⟩
      case measure => simp [intOf]; omega
    · obtain rfl : k = n2 := by omega
      have hr := hide (timesV_all (p := ⟨k, f1, k, f2⟩) N.out rfl rfl hT.out)
      go_wp2
      go_ret
      exact ⟨ret_bool hr.symm, hb⟩
theorem iValid_is (v : Bool) (b off : Nat) (a1 a2 : Option Addr) (n1 c1 n2 c2 : Nat) (f1 f2 : Nat → Int) (n : Int) (w : World) (hv : pathV n ⟨n1, f1, n2, f2⟩ = v) (h0 : w.cell? ⟨b, off, none⟩ = some (.slice a1 n1 c1)) (h1 : w.cell? ⟨b, off + 1, none⟩ = some (.slice a2 n2 c2))
    (r1 : Rn w w.heap.size a1 n1 f1) (r2 : Rn w w.heap.size a2 n2 f2) :
    Calls Try.prog 59 #[.pointer (some ⟨b, off, none⟩), .int .i64 n] w fun e w' => e = .returned (.bool v) ∧ ∃ q, w' = w.drewN q := by
  rw [← hv]; exact iValid b off a1 a2 n1 c1 n2 c2 f1 f2 n w h0 h1 r1 r2
theorem sValid_is (v : Bool) (a1 a2 : Option Addr) (n1 c1 n2 c2 : Nat) (f1 f2 : Nat → Int) (n : Int) (w : World) (hv : pathV n ⟨n1, f1, n2, f2⟩ = v) (r1 : Rn w w.heap.size a1 n1 f1) (r2 : Rn w w.heap.size a2 n2 f2) :
    Calls Try.prog 62 #[.int .i64 n, .agg #[.slice a1 n1 c1, .slice a2 n2 c2]] w fun e w' => e = .returned (.bool v) ∧ Below w.heap.size w w' := by
  rw [← hv]; exact sValid a1 a2 n1 c1 n2 c2 f1 f2 n w r1 r2
end Go.Proofs.Ytjppkcfbhhjniaa
