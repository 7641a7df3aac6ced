/-
  Contracts of PathsPasses, the program's and the reference's.
-/
import Derived.Test.YtjppkcfbhhjniaaPathB
namespace Go.Proofs.Ytjppkcfbhhjniaa
open Go.RowKit
set_option linter.unusedVariables false

/-- The sum of the first numbers. -/
def sumTo (f : Nat → Int) : Nat → Int
  | 0 => 0
  | i + 1 => sumTo f i + f i
theorem sumTo_congr {f g : Nat → Int} : ∀ n, (∀ i, i < n → f i = g i) → sumTo f n = sumTo g n
  | 0, _ => rfl
  | n + 1, h => by simp only [sumTo]; rw [sumTo_congr n (fun i hi => h i (by omega)), h n (by omega)]
theorem sumTo_add (f g : Nat → Int) : ∀ n, sumTo (fun i => f i + g i) n = sumTo f n + sumTo g n
  | 0 => rfl
  | n + 1 => by simp only [sumTo]; rw [sumTo_add f g n]; omega
theorem sumTo_zero : ∀ n, sumTo (fun _ => 0) n = 0
  | 0 => rfl
  | n + 1 => by simp only [sumTo]; rw [sumTo_zero n]; rfl
theorem sumTo_swap (f : Nat → Nat → Int) (n : Nat) : ∀ m, sumTo (fun a => sumTo (fun b => f a b) n) m = sumTo (fun b => sumTo (fun a => f a b) m) n
  | 0 => by simp only [sumTo]; exact (sumTo_zero n).symm
  | m + 1 => by
    simp only [sumTo]
    rw [sumTo_swap f n m, ← sumTo_add]
theorem sumTo_bd {f : Nat → Int} {B : Int} : ∀ n : Nat, (∀ i, i < n → 0 ≤ f i ∧ f i ≤ B) → 0 ≤ sumTo f n ∧ sumTo f n ≤ B * n
  | 0, _ => by simp [sumTo]
  | n + 1, h => by
    have h1 := sumTo_bd n (fun i hi => h i (by omega))
    have h2 := h n (by omega)
    simp only [sumTo]
    have e : B * ((n + 1 : Nat) : Int) = B * n + B := by rw [show ((n + 1 : Nat) : Int) = (n : Int) + 1 by omega, Int.mul_add, Int.mul_one]
    omega
/-- Does one of two trains pass the other between two sections? -/
def pss (D : Nat → PD) (k i j : Nat) : Int := if decide ((D i).f1 k < (D j).f1 k) != decide ((D i).f1 (k + 1) < (D j).f1 (k + 1)) then 1 else 0
theorem pss_bd (D : Nat → PD) (k i j : Nat) : 0 ≤ pss D k i j ∧ pss D k i j ≤ 1 := by unfold pss; split <;> omega
def pssK (D : Nat → PD) (m k : Nat) : Int := sumTo (fun i => sumTo (fun j => pss D k i j) i) m
/-- PathsPasses. -/
def passes (D : Nat → PD) (m s : Nat) : Int := sumTo (fun k => pssK D m k) s
theorem pssJ_bd (D : Nat → PD) (k i : Nat) (j : Nat) : 0 ≤ sumTo (fun j => pss D k i j) j ∧ sumTo (fun j => pss D k i j) j ≤ j := by
  have := sumTo_bd (f := fun j => pss D k i j) (B := 1) j (fun j _ => pss_bd D k i j); omega
theorem pssI_bd (D : Nat → PD) (k : Nat) (i : Nat) (h : i ≤ 8) : 0 ≤ sumTo (fun i => sumTo (fun j => pss D k i j) i) i ∧ sumTo (fun i => sumTo (fun j => pss D k i j) i) i ≤ 64 := by
  have := sumTo_bd (B := 8) (f := fun i => sumTo (fun j => pss D k i j) i) i (fun i hi => by have := pssJ_bd D k i i; omega)
  omega
theorem pssT_bd (D : Nat → PD) (m s : Nat) (hm : m ≤ 8) (hs : s ≤ 5) : 0 ≤ passes D m s ∧ passes D m s ≤ 320 := by
  have := sumTo_bd (B := 64) (f := fun k => pssK D m k) s (fun k _ => pssI_bd D k m hm)
  unfold passes
  omega
/-- In the order of the reference. -/
def pssS (D : Nat → PD) (s i j : Nat) : Int := sumTo (fun k => pss D k i j) s
theorem passes_swap (D : Nat → PD) (m s : Nat) : sumTo (fun i => sumTo (fun j => pssS D s i j) i) m = passes D m s := by
  unfold passes pssK pssS
  rw [← sumTo_swap (fun i k => sumTo (fun j => pss D k i j) i) s m]
  exact sumTo_congr m (fun i _ => sumTo_swap (fun j k => pss D k i j) s i)
theorem pssS_bd (D : Nat → PD) (s i j : Nat) (hs : s ≤ 5) : 0 ≤ pssS D s i j ∧ pssS D s i j ≤ 5 := by
  have := sumTo_bd (f := fun k => pss D k i j) (B := 1) s (fun k _ => pss_bd D k i j); unfold pssS; omega
theorem pssSJ_bd (D : Nat → PD) (s i j : Nat) (hs : s ≤ 5) (hj : j ≤ 8) : 0 ≤ sumTo (fun j => pssS D s i j) j ∧ sumTo (fun j => pssS D s i j) j ≤ 40 := by
  have := sumTo_bd (f := fun j => pssS D s i j) (B := 5) j (fun j _ => pssS_bd D s i j hs); omega
theorem pssSI_bd (D : Nat → PD) (s i : Nat) (hs : s ≤ 5) (hi : i ≤ 8) : 0 ≤ sumTo (fun i => sumTo (fun j => pssS D s i j) i) i ∧ sumTo (fun i => sumTo (fun j => pssS D s i j) i) i ≤ 320 := by
  have := sumTo_bd (B := 40) (f := fun i => sumTo (fun j => pssS D s i j) i) i (fun i hi => pssSJ_bd D s i i hs (by omega)); omega
theorem pss_is {D : Nat → PD} {k i j : Nat} {p q : Bool} (h1 : decide ((D i).f1 k < (D j).f1 k) = p) (h2 : decide ((D i).f1 (k + 1) < (D j).f1 (k + 1)) = q) : pss D k i j = if p != q then 1 else 0 := by unfold pss; rw [h1, h2]
set_option maxHeartbeats 4000000 in
theorem iPasses_yes (A : Option Addr) (m c : Nat) (D : Nat → PD) (s : Nat) (w : World) (h : PsRn w w.heap.size A m D) (hpv : pathsV ((s : Int) + 1) D m = true) :
    Calls Try.prog 20 #[.int .i64 ((s : Int) + 1), .slice A m c] w fun e w' => e = .returned (.int .i64 (passes D m s)) ∧ Below w.heap.size w w' := by
  have hm8 : m ≤ 8 := (pathsV_iff.1 hpv).2.2.1
  have hn5 : (s : Int) + 1 ≤ 5 := (pathsV_iff.1 hpv).2.1
  have PV := Lib.hid hpv
  clear hpv
  go_enter Try.func20, Try.ntmps20
  go_wp2_with fail
  refine (iPathsV_is true A m c D _ _ PV.out h (by omega)).mono ?_
  rintro e w1 ⟨rfl, hb⟩
  have hp := h.below hb
  clear h
  go_wp2
  go_loopw [5, 6] (fun v i wr => ∃ (k : Nat) (t : Int), k ≤ s ∧ i = .int .i64 ((k : Int) + 1) ∧ v = .int .i64 t ∧ Hid (passes D m k = t) ∧ PsRn wr w.heap.size A m D ∧ Below w.heap.size w wr) (fun _ i _ => s + 1 - (intOf i).toNat)
  case atStart => exact ⟨0, 0, Nat.zero_le _, rfl, rfl, rfl, hp, hb⟩
  case round =>
    clear hp hb
    obtain ⟨k, t, hk, rfl, rfl, hT, hp, hb⟩ := hrel
    obtain ⟨wo, rfl⟩ : ∃ wo : World, wo = wr := ⟨_, rfl⟩
    have hbd := pssT_bd D m k hm8 (by omega)
    rw [hT.out] at hbd
    by_cases hlt : k < s
    · go_wp2
      go_loopw [5, 22] (fun v i wr => ∃ (i' : Nat) (t' : Int), i' ≤ m ∧ i = .int .i64 i' ∧ v = .int .i64 (t + t') ∧ Hid (sumTo (fun i => sumTo (fun j => pss D k i j) i) i' = t') ∧ PsRn wr w.heap.size A m D ∧ Below w.heap.size w wr) (fun _ i _ => m - (intOf i).toNat)
      case atStart => exact ⟨0, 0, Nat.zero_le _, rfl, by simp, rfl, hp, hb⟩
      case round =>
        clear hp hb
        obtain ⟨i, t', hi, rfl, rfl, hT', hp, hb⟩ := hrel
        obtain ⟨wp, rfl⟩ : ∃ wp : World, wp = wr := ⟨_, rfl⟩
        have hbd' := pssI_bd D k i (by omega)
        rw [hT'.out] at hbd'
        by_cases hlt' : i < m
        · go_wp2
          go_loopw [5, 26] (fun v j wr => ∃ (j' : Nat) (u : Int), j' ≤ i ∧ j = .int .i64 j' ∧ v = .int .i64 (t + t' + u) ∧ Hid (sumTo (fun j => pss D k i j) j' = u) ∧ PsRn wr w.heap.size A m D ∧ Below w.heap.size w wr) (fun _ j _ => i - (intOf j).toNat)
          case atStart => exact ⟨0, 0, Nat.zero_le _, rfl, by simp, rfl, hp, hb⟩
          case round =>
            clear hp hb
            obtain ⟨j, u, hj, rfl, rfl, hU, hp, hb⟩ := hrel
            have hbd2 := pssJ_bd D k i j
            rw [hU.out] at hbd2
            by_cases hlt2 : j < i
            · obtain ⟨b, off, a1, c1, a2, c2, n1, f1, n2, f2, rfl, hbB, hD, x0, x1, r1, r2⟩ := hp.at_ hlt'
              obtain ⟨b', off', d1, e1, d2, e2, n3, g1, n4, g2, e0, hbB', hD', y0, y1, s1, s2⟩ := hp.at_ (show j < m by omega)
              simp only [Option.some.injEq, Addr.mk.injEq, and_true] at e0
              obtain ⟨rfl, rfl⟩ := e0
              have hat := (pathsV_at PV.out hlt').1
              have hat' := (pathsV_at PV.out (show j < m by omega)).1
              rw [hD] at hat
              rw [hD'] at hat'
              simp only at hat hat'
              obtain ⟨q1, o1, rfl, hd1, hc1⟩ := r1 (by omega)
              obtain ⟨q2, o2, rfl, hd2, hc2⟩ := s1 (by omega)
              have z1 := hc1 k (by omega)
              have z2 := hc1 (k + 1) (by omega)
              have z3 := hc2 k (by omega)
              have z4 := hc2 (k + 1) (by omega)
              have i0 : (0 : Int) ≤ (i : Int) := by omega
              have i1 : (i : Int) < (m : Int) := by omega
              have i2 : (0 : Int) ≤ (j : Int) := by omega
              have i3 : (j : Int) < (m : Int) := by omega
              have i4 : (0 : Int) ≤ (k : Int) := by omega
              have i5 : (k : Int) < (n1 : Int) := by omega
              have i6 : (k : Int) < (n3 : Int) := by omega
              have i7 : (0 : Int) ≤ (k : Int) + 1 := by omega
              have i8 : (k : Int) + 1 < (n1 : Int) := by omega
              have i9 : (k : Int) + 1 < (n3 : Int) := by omega
              have w1 : IntKind.i64.wrap ((k : Int) + 1 - 1) = (k : Int) := by rw [show (k : Int) + 1 - 1 = (k : Int) by omega]; exact IntWalk.i64_in _ (by omega)
              have w2 : ((k : Int) + 1).toNat = k + 1 := by omega
              have hps : ∀ p q : Bool, decide (f1 k < g1 k) = p → decide (f1 (k + 1) < g1 (k + 1)) = q → Hid (sumTo (fun j => pss D k i j) (j + 1) = u + if p != q then 1 else 0) := fun p q h1 h2 => by
                show sumTo _ j + pss D k i j = _
                rw [hU.out, pss_is (p := p) (q := q) (by rw [hD, hD']; exact h1) (by rw [hD, hD']; exact h2)]
              have PS := Lib.hid hps
              clear hc1 hc2 hD hD' hat hat' r2 s2 x1 y1 hps
              cases h1 : decide (f1 k < g1 k) <;> cases h2 : decide (f1 (k + 1) < g1 (k + 1))
              all_goals
                have hst := PS.out _ _ h1 h2
                go_wp2
                go_quiet (fail)
                go_wp2
                go_quiet (fail)
                clear w1 w2
                go_wp2
                go_roundw
                case rel => exact ⟨j + 1, _, by omega, by go_num, int_eq (by simp; try omega), hst, hp.drewN _, below_dn hb _⟩
                case measure => simp [intOf]; omega
            · obtain rfl : j = i := by omega
              have hst : Hid (sumTo (fun i => sumTo (fun j => pss D k i j) i) (j + 1) = t' + u) := by show sumTo _ j + sumTo (fun j' => pss D k j j') j = _; rw [hT'.out, hU.out]
              go_wp2
              go_roundw
              case rel => exact ⟨j + 1, t' + u, by omega, by go_num, int_eq (by omega), hst, hp, hb⟩
              case measure => simp [intOf]; omega
        · obtain rfl : i = m := by omega
          have hst : Hid (passes D i (k + 1) = t + t') := by show passes D i k + pssK D i k = _; rw [hT.out]; unfold pssK; rw [hT'.out]
          go_wp2
          go_roundw
          case rel => exact ⟨k + 1, t + t', by omega, by go_num, rfl, hst, hp, hb⟩
          case measure => simp [intOf]; omega
    · obtain rfl : k = s := by omega
      go_wp2
      go_ret
      exact ⟨ret_int hT.out.symm, hb⟩
theorem iPasses_no (A : Option Addr) (m c : Nat) (D : Nat → PD) (n : Int) (w : World) (h : PsRn w w.heap.size A m D) (hm : m ≤ 1099511627776) (hv : pathsV n D m = false) :
    Calls Try.prog 20 #[.int .i64 n, .slice A m c] w fun e w' => e = .returned (.int .i64 (-1)) ∧ Below w.heap.size w w' := by
  have V := Lib.hid hv
  clear hv
  go_enter Try.func20, Try.ntmps20
  go_wp2_with fail
  refine (iPathsV_is false A m c D n _ V.out h hm).mono ?_
  rintro e w1 ⟨rfl, hb⟩
  go_wp2
  go_ret
  exact ⟨rfl, hb⟩
set_option maxHeartbeats 4000000 in
theorem sPasses_yes (A : Option Addr) (m c : Nat) (D : Nat → PD) (s : Nat) (w : World) (h : PsRn w w.heap.size A m D) (hpv : pathsV ((s : Int) + 1) D m = true) :
    Calls Try.prog 21 #[.int .i64 ((s : Int) + 1), .slice A m c] w fun e w' => e = .returned (.int .i64 (passes D m s)) ∧ Below w.heap.size w w' := by
  have hm8 : m ≤ 8 := (pathsV_iff.1 hpv).2.2.1
  have hn5 : (s : Int) + 1 ≤ 5 := (pathsV_iff.1 hpv).2.1
  have PV := Lib.hid hpv
  clear hpv
  go_enter Try.func21, Try.ntmps21
  go_wp2_with fail
  refine (sPathsV_is true A m c D _ _ PV.out h (by omega)).mono ?_
  rintro e w1 ⟨rfl, hb⟩
  have hp := h.below hb
  clear h
  go_wp2
  go_loopw [5, 6] (fun v i wr => ∃ (i' : Nat) (t : Int), i' ≤ m ∧ i = .int .i64 i' ∧ v = .int .i64 t ∧ Hid (sumTo (fun i => sumTo (fun j => pssS D s i j) i) i' = t) ∧ PsRn wr w.heap.size A m D ∧ Below w.heap.size w wr) (fun _ i _ => m - (intOf i).toNat)
  case atStart => exact ⟨0, 0, Nat.zero_le _, rfl, rfl, rfl, hp, hb⟩
  case round =>
    clear hp hb
    obtain ⟨i, t, hi, rfl, rfl, hT, hp, hb⟩ := hrel
    obtain ⟨wo, rfl⟩ : ∃ wo : World, wo = wr := ⟨_, rfl⟩
    have hbd := pssSI_bd D s i (by omega) (by omega)
    rw [hT.out] at hbd
    by_cases hlt' : i < m
    · go_wp2
      go_loopw [5, 7] (fun v j wr => ∃ (j' : Nat) (t' : Int), j' ≤ i ∧ j = .int .i64 j' ∧ v = .int .i64 (t + t') ∧ Hid (sumTo (fun j => pssS D s i j) j' = t') ∧ PsRn wr w.heap.size A m D ∧ Below w.heap.size w wr) (fun _ j _ => i - (intOf j).toNat)
      case atStart => exact ⟨0, 0, Nat.zero_le _, rfl, by simp, rfl, hp, hb⟩
      case round =>
        clear hp hb
        obtain ⟨j, t', hj, rfl, rfl, hT', hp, hb⟩ := hrel
        obtain ⟨wp, rfl⟩ : ∃ wp : World, wp = wr := ⟨_, rfl⟩
        have hbd' := pssSJ_bd D s i j (by omega) (by omega)
        rw [hT'.out] at hbd'
        by_cases hlt2 : j < i
        · go_wp2
          go_loopw [5, 8] (fun v k wr => ∃ (k' : Nat) (u : Int), k' ≤ s ∧ k = .int .i64 ((k' : Int) + 1) ∧ v = .int .i64 (t + t' + u) ∧ Hid (sumTo (fun k => pss D k i j) k' = u) ∧ PsRn wr w.heap.size A m D ∧ Below w.heap.size w wr) (fun _ k _ => s + 1 - (intOf k).toNat)
          case atStart => exact ⟨0, 0, Nat.zero_le _, rfl, by simp, rfl, hp, hb⟩
          case round =>
            clear hp hb
            obtain ⟨k, u, hk, rfl, rfl, hU, hp, hb⟩ := hrel
            have hbd2 := pssS_bd D k i j (by omega)
            unfold pssS at hbd2
            rw [hU.out] at hbd2
            by_cases hlt : k < s
            · obtain ⟨b, off, a1, c1, a2, c2, n1, f1, n2, f2, rfl, hbB, hD, x0, x1, r1, r2⟩ := hp.at_ hlt'
              obtain ⟨b', off', d1, e1, d2, e2, n3, g1, n4, g2, e0, hbB', hD', y0, y1, s1, s2⟩ := hp.at_ (show j < m by omega)
              simp only [Option.some.injEq, Addr.mk.injEq, and_true] at e0
              obtain ⟨rfl, rfl⟩ := e0
              have hat := (pathsV_at PV.out hlt').1
              have hat' := (pathsV_at PV.out (show j < m by omega)).1
              rw [hD] at hat
              rw [hD'] at hat'
              simp only at hat hat'
              obtain ⟨q1, o1, rfl, hd1, hc1⟩ := r1 (by omega)
              obtain ⟨q2, o2, rfl, hd2, hc2⟩ := s1 (by omega)
              have z1 := hc1 k (by omega)
              have z2 := hc1 (k + 1) (by omega)
              have z3 := hc2 k (by omega)
              have z4 := hc2 (k + 1) (by omega)
              have i0 : (0 : Int) ≤ (i : Int) := by omega
              have i1 : (i : Int) < (m : Int) := by omega
              have i2 : (0 : Int) ≤ (j : Int) := by omega
              have i3 : (j : Int) < (m : Int) := by omega
              have i4 : (0 : Int) ≤ (k : Int) := by omega
              have i5 : (k : Int) < (n1 : Int) := by omega
              have i6 : (k : Int) < (n3 : Int) := by omega
              have i7 : (0 : Int) ≤ (k : Int) + 1 := by omega
              have i8 : (k : Int) + 1 < (n1 : Int) := by omega
              have i9 : (k : Int) + 1 < (n3 : Int) := by omega
              have w1 : IntKind.i64.wrap ((k : Int) + 1 - 1) = (k : Int) := by rw [show (k : Int) + 1 - 1 = (k : Int) by omega]; exact IntWalk.i64_in _ (by omega)
              have w2 : ((k : Int) + 1).toNat = k + 1 := by omega
              have hps : ∀ p q : Bool, decide (f1 k < g1 k) = p → decide (f1 (k + 1) < g1 (k + 1)) = q → Hid (sumTo (fun k => pss D k i j) (k + 1) = u + if p != q then 1 else 0) := fun p q h1 h2 => by
                show sumTo _ k + pss D k i j = _
                rw [hU.out, pss_is (p := p) (q := q) (by rw [hD, hD']; exact h1) (by rw [hD, hD']; exact h2)]
              have PS := Lib.hid hps
              clear hc1 hc2 hD hD' hat hat' r2 s2 x1 y1 hps
              cases h1 : decide (f1 k < g1 k) <;> cases h2 : decide (f1 (k + 1) < g1 (k + 1))
              all_goals
                have hst := PS.out _ _ h1 h2
                go_wp2
                go_quiet (fail)
                clear w1 w2
                go_wp2
                go_roundw
                case rel => exact ⟨k + 1, _, by omega, by go_num, int_eq (by simp; try omega), hst, hp.drewN _, below_dn hb _⟩
                case measure => simp [intOf]; omega
            · obtain rfl : k = s := by omega
              have hst : Hid (sumTo (fun j => pssS D k i j) (j + 1) = t' + u) := by show sumTo _ j + pssS D k i j = _; rw [hT'.out]; unfold pssS; rw [hU.out]
              go_wp2
              go_roundw
              case rel => exact ⟨j + 1, t' + u, by omega, by go_num, int_eq (by omega), hst, hp, hb⟩
              case measure => simp [intOf]; omega
        · obtain rfl : j = i := by omega
          have hst : Hid (sumTo (fun i => sumTo (fun j => pssS D s i j) i) (j + 1) = t + t') := by show sumTo _ j + sumTo (fun j' => pssS D s j j') j = _; rw [hT.out, hT'.out]
          go_wp2
          go_roundw
          case rel => exact ⟨j + 1, t + t', by omega, by go_num, rfl, hst, hp, hb⟩
          case measure => simp [intOf]; omega
    · obtain rfl : i = m := by omega
      have hfin : Hid (passes D i s = t) := (passes_swap D i s).symm.trans hT.out
      go_wp2
      go_ret
      exact ⟨ret_int hfin.out.symm, hb⟩
theorem sPasses_no (A : Option Addr) (m c : Nat) (D : Nat → PD) (n : Int) (w : World) (h : PsRn w w.heap.size A m D) (hm : m ≤ 1099511627776) (hv : pathsV n D m = false) :
    Calls Try.prog 21 #[.int .i64 n, .slice A m c] w fun e w' => e = .returned (.int .i64 (-1)) ∧ Below w.heap.size w w' := by
  have V := Lib.hid hv
  clear hv
  go_enter Try.func21, Try.ntmps21
  go_wp2_with fail
  refine (sPathsV_is false A m c D n _ V.out h hm).mono ?_
  rintro e w1 ⟨rfl, hb⟩
  go_wp2
  go_ret
  exact ⟨rfl, hb⟩
end Go.Proofs.Ytjppkcfbhhjniaa
