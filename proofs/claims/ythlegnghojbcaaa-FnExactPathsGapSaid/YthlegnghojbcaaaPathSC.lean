/-
  Contracts of the small functions on slices of paths: szPathS, toPathS, eqPathS.
-/
import Derived.Test.YthlegnghojbcaaaPathSM
import Derived.Test.YthlegnghojbcaaaPathH
import Derived.Deep.RegionHeld3
import Derived.Laws.MakeOwn
namespace Go.Proofs.Ythlegnghojbcaaa
open Go.RowKit
set_option linter.unusedVariables false

theorem eqPath_self (a1 a2 d1 d2 : Option Addr) (n1 c1 n2 c2 e1 e2 : Nat) (f1 f2 : Nat → Int) (w : World) (r1 : Rn w w.heap.size a1 n1 f1) (r2 : Rn w w.heap.size a2 n2 f2) (s1 : Rn w w.heap.size d1 n1 f1) (s2 : Rn w w.heap.size d2 n2 f2)
    (hn1 : n1 ≤ 1099511627776) (hn2 : n2 ≤ 1099511627776) :
    Calls Try.prog 16 #[.agg #[.slice a1 n1 c1, .slice a2 n2 c2], .agg #[.slice d1 n1 e1, .slice d2 n2 e2]] w fun e w' => e = .returned (.bool true) ∧ Below w.heap.size w w' :=
  (eqPath_any a1 a2 d1 d2 n1 c1 n2 c2 n1 e1 n2 e2 f1 f2 f1 f2 w r1 r2 s1 s2 hn1 hn2 hn1 hn2).mono fun _ _ ⟨he, hw⟩ => ⟨by rw [he, eqP_self], hw⟩
/-- How many numbers the first k paths have. -/
def tot (D : Nat → PD) : Nat → Nat
  | 0 => 0
  | k + 1 => tot D k + (D k).m1 + (D k).m2
theorem tot_mono (D : Nat → PD) {k m : Nat} (h : k ≤ m) : tot D k ≤ tot D m := by
  induction m with
  | zero => rw [show k = 0 by omega]; exact Nat.le_refl _
  | succ m ih =>
    by_cases e : k = m + 1
    · subst e; exact Nat.le_refl _
    · have := ih (by omega)
      show _ ≤ tot D m + (D m).m1 + (D m).m2
      omega
theorem tot_at (D : Nat → PD) {k n : Nat} (h : k < n) : (D k).m1 + (D k).m2 ≤ tot D n := by
  have := tot_mono D (show k + 1 ≤ n from h)
  have e : tot D (k + 1) = tot D k + (D k).m1 + (D k).m2 := rfl
  omega
/-- szPathS. -/
def szV (n : Nat) (D : Nat → PD) (left : Int) : Int := if (n : Int) + tot D n ≤ left then left - n - tot D n else -1
theorem szV_yes {n : Nat} {D : Nat → PD} {left : Int} (h : (n : Int) + tot D n ≤ left) : szV n D left = left - n - tot D n := if_pos h
theorem szV_no {n : Nat} {D : Nat → PD} {left : Int} (h : ¬ (n : Int) + tot D n ≤ left) : szV n D left = -1 := if_neg h
set_option maxHeartbeats 2000000 in
theorem szPathS_any (A : Option Addr) (n c : Nat) (D : Nat → PD) (left : Int) (w : World) (h : PsRn w w.heap.size A n D) (h0 : 0 ≤ left) (h1 : left ≤ 1048576) (hn : n ≤ 9223372036854775807) (hD : ∀ i, i < n → (D i).m1 ≤ 9223372036854775807 ∧ (D i).m2 ≤ 9223372036854775807) :
    Calls Try.prog 19 #[.slice A n c, .int .i64 left] w fun e w' => e = .returned (.int .i64 (szV n D left)) ∧ Below w.heap.size w w' := by
  by_cases hl : left - n < 0
  · have hr := hide (szV_no (n := n) (D := D) (left := left) (by omega))
    clear hD
    go_enter Try.func19, Try.ntmps19
    go_wp2
    go_ret
    exact ⟨ret_int hr.symm, by go_grown⟩
  have HD := Lib.hid hD
  clear hD
  go_enter Try.func19, Try.ntmps19
  go_wp2
  go_loopw [1, 5] (fun v i wr => ∃ (k : Nat) (t : Nat), k ≤ n ∧ i = .int .i64 k ∧ v = .int .i64 (left - n - (t : Int)) ∧ (n : Int) + t ≤ left ∧ Hid (tot D k = t) ∧ PsRn wr w.heap.size A n D ∧ Below w.heap.size w wr) (fun _ i _ => n - (intOf i).toNat)
  case atStart => exact ⟨0, 0, Nat.zero_le _, rfl, by simp, by omega, rfl, h, Below.refl _ _⟩
  case round =>
    obtain ⟨k, t, hk, rfl, rfl, ht, hT, hp, hb⟩ := hrel
    clear h
    by_cases hlt : k < n
    · obtain ⟨b, off, a1, c1, a2, c2, m1, f1, m2, f2, rfl, hbB, hd, x0, x1, r1, r2⟩ := hp.at_ hlt
      have hd2 := HD.out k hlt
      rw [hd] at hd2
      have hstep : tot D (k + 1) = t + m1 + m2 := by show tot D k + (D k).m1 + (D k).m2 = _; rw [hT.out, hd]
      have hm1 : m1 ≤ 9223372036854775807 := hd2.1
      have hm2 : m2 ≤ 9223372036854775807 := hd2.2
      have hsz := hb.size
      by_cases hf : (m1 : Int) + m2 ≤ left - n - t
      · have hT2 := hide hstep
        clear hstep hd hd2
        go_wp2_with fail
        refine (szPath_yes a1 a2 m1 c1 m2 c2 (left - n - t) _ hf (by omega)).mono ?_
        rintro e w1 ⟨rfl, hn1⟩
        have hb1 := bl hb (by omega) hn1
        have hp1 := hp.below (hn1.mono hsz)
        clear hn1
        go_wp2
        go_roundw
        case rel => exact ⟨k + 1, t + m1 + m2, by omega, by go_num, by go_num, by omega, hT2, hp1, hb1⟩
        case measure => simp [intOf]; omega
      · have hr := hide (szV_no (n := n) (D := D) (left := left) (by have := tot_mono D (show k + 1 ≤ n from hlt); rw [hstep] at this; omega))
        clear hstep hd hd2
        go_wp2_with fail
        refine (szPath_no a1 a2 m1 c1 m2 c2 (left - n - t) _ (by omega) (by omega) (by omega) hm1 hm2).mono ?_
        rintro e w1 ⟨rfl, hn1⟩
        have hb1 := bl hb (by omega) hn1
        clear hn1 hf
        go_wp2
        go_ret
        exact ⟨ret_int hr.symm, hb1⟩
    · obtain rfl : k = n := by omega
      have hr := hide (szV_yes (n := k) (D := D) (left := left) (by rw [hT.out]; exact ht))
      go_wp2
      go_ret
      exact ⟨ret_int (by rw [hr.out, hT.out]), hb⟩
theorem pathInfo : (Try.prog.info? 26).map (fun i => (i.zero, i.size, i.bytes)) = some (some (.agg #[.slice none 0 0, .slice none 0 0]), 2, 48) := by kernel_rfl
theorem made2 (w : World) (z : Value) (n : Nat) (T : TypeId) : (w.alloc (.cells (madeCells #[z, z] n) T)).rowIs w.heap.size T n (fun _ => z) :=
  ⟨_, Go.Deep.blk_alloc_new _ _, size_madeCells _ _, fun i hi => by
    have h2 : i % 2 = 0 ∨ i % 2 = 1 := by omega
    rcases h2 with h2 | h2 <;> simp [madeCells, hi, h2]⟩
/-- A slice of paths has been made. -/
def NewPaths (w : World) (n : Nat) (D : Nat → PD) (e : Ending) (w' : World) : Prop := e = .returned (.slice (some ⟨w.heap.size, 0, none⟩) n n) ∧ PsPart w' 26 w.heap.size w'.heap.size w.heap.size n n D ∧ Below w.heap.size w w'
set_option maxHeartbeats 2000000 in
theorem toPathS_any (A : Option Addr) (n c : Nat) (D : Nat → PD) (w : World) (h : PsRn w w.heap.size A n D) (hn : n ≤ 1048576) (hD : ∀ i, i < n → (D i).m1 ≤ 1048576 ∧ (D i).m2 ≤ 1048576) :
    Calls Try.prog 21 #[.slice A n c] w (NewPaths w n D) := by
  obtain ⟨i0, ji0, jz0, jz1, jz2⟩ := info_parts pathInfo
  have hmk := fun W : World => run_make (P := Try.prog) W 36 26 i0 (.agg #[.slice none 0 0, .slice none 0 0]) Try.underlying36 ji0 jz0 .i64 .i64 n n (by omega) (by omega) (by rw [jz2]; omega) (by omega)
  simp only [Int.toNat_natCast, jz1] at hmk
  have HD := Lib.hid hD
  clear hD ji0 jz0 jz1 jz2
  go_enter Try.func21, Try.ntmps21
  go_wp2
  have hrow := made2 w (.slice none 0 0) (n * 2) 26
  go_loopw [4] (fun i wr => ∃ k : Nat, k ≤ n ∧ i = .int .i64 k ∧ PsPart wr 26 w.heap.size wr.heap.size w.heap.size n k D ∧ PsRn wr w.heap.size A n D ∧ Below w.heap.size w wr ∧ w.heap.size < wr.heap.size) (fun i _ => n - (intOf i).toNat)
  case atStart => exact ⟨0, Nat.zero_le _, rfl, PsPart.start _ _ _ _ _ _ _ _ (Nat.le_refl _) (by simp) hrow, h.alloc (Nat.le_refl _) _, by go_grown, by simp⟩
  case round =>
    clear hmk hrow h
    obtain ⟨k, hk, rfl, hq, hp, hb, hsz⟩ := hrel
    by_cases hlt : k < n
    · obtain ⟨b, off, a1, c1, a2, c2, m1, f1, m2, f2, rfl, hbB, hd, x0, x1, r1, r2⟩ := hp.at_ hlt
      have hd2 := HD.out k hlt
      rw [hd] at hd2
      have hm1 : m1 ≤ 1048576 := hd2.1
      have hm2 : m2 ≤ 1048576 := hd2.2
      have hdH := Lib.hid hd
      clear hd hd2
      go_wp2_with fail
      refine (toPath_two a1 a2 m1 c1 m2 c2 f1 f2 _ (r1.up (by omega)) (r2.up (by omega)) hm1 hm2).mono ?_
      rintro e w1 ⟨b1, b2, rfl, ⟨hs1, hs2, hs3⟩, o1, o2, hn1⟩
      have hb1 : Below w.heap.size w w1 := bl hb (by omega) hn1
      have hq1 : PsPart ((w1.setCell ⟨w.heap.size, k * 2, none⟩ (.slice (some ⟨b1, 0, none⟩) m1 m1)).setCell ⟨w.heap.size, k * 2 + 1, none⟩ (.slice (some ⟨b2, 0, none⟩) m2 m2)) 26 w.heap.size w1.heap.size w.heap.size n (k + 1) D := by
        have := hq.put hlt (Nat.le_refl _) hn1 (c1 := m1) (c2 := m2) (a1 := some ⟨b1, 0, none⟩) (a2 := some ⟨b2, 0, none⟩) hs2 hs1 hs3 (by rw [hdH.out]; exact o1) (by rw [hdH.out]; exact o2)
        rwa [hdH.out] at this
      have hp1 := hp.below (hn1.mono (by omega))
      have hc0 : ∃ v, w1.cell? ⟨w.heap.size, k * 2, none⟩ = some v := by
        obtain ⟨G, F, _, _, _, _, hr, _⟩ := hq
        exact ⟨_, (hn1.cell (p := ⟨w.heap.size, k * 2, none⟩) hsz).trans (hr.cell (by omega))⟩
      have hc1 : ∃ v, w1.cell? ⟨w.heap.size, k * 2 + 1, none⟩ = some v := by
        obtain ⟨G, F, _, _, _, _, hr, _⟩ := hq
        exact ⟨_, (hn1.cell (p := ⟨w.heap.size, k * 2 + 1, none⟩) hsz).trans (hr.cell (by omega))⟩
      have hf : ∀ o, w1.frozen? ⟨w.heap.size, o, none⟩ = false := fun o => by
        obtain ⟨G, F, _, _, _, _, hr, _⟩ := hq
        exact (hn1.frozen (p := ⟨w.heap.size, o, none⟩) hsz).trans (hr.frozen o)
      obtain ⟨v0, hc0⟩ := hc0
      obtain ⟨v1, hc1⟩ := hc1
      have Q1 := Lib.hid hq1
      have hsz1 : w.heap.size < w1.heap.size := by omega
      clear hq hp hq1 hn1 o1 o2 x0 x1 r1 r2 hb
      go_wp2
      go_roundw
      case rel => exact ⟨k + 1, by omega, by go_num, by simpa using Q1.out, (hp1.keep (fun b hb => by rw [Go.Deep.blk_setCell_other _ _ _ _ (by simp; omega), Go.Deep.blk_setCell_other _ _ _ _ (by simp; omega)])), by go_grown, by simp; omega⟩
      case measure => simp [intOf]; omega
    · obtain rfl : k = n := by omega
      go_wp2
      go_ret
      exact ⟨rfl, hq, hb⟩
set_option maxHeartbeats 2000000 in
theorem eqPathS_self (A E : Option Addr) (n c d : Nat) (D : Nat → PD) (w : World) (h : PsRn w w.heap.size A n D) (h2 : PsRn w w.heap.size E n D) (hn : n ≤ 1048576) (hD : ∀ i, i < n → (D i).m1 ≤ 1048576 ∧ (D i).m2 ≤ 1048576) :
    Calls Try.prog 23 #[.slice A n c, .slice E n d] w fun e w' => e = .returned (.bool true) ∧ Below w.heap.size w w' := by
  have HD := Lib.hid hD
  have hd : ((n : Int) != (n : Int)) = false := eq_lit rfl
  clear hD
  go_enter Try.func23, Try.ntmps23
  go_wp2
  go_loopw [5] (fun i wr => ∃ k : Nat, k ≤ n ∧ i = .int .i64 k ∧ PsRn wr w.heap.size A n D ∧ PsRn wr w.heap.size E n D ∧ Below w.heap.size w wr) (fun i _ => n - (intOf i).toNat)
  case atStart => exact ⟨0, Nat.zero_le _, rfl, h, h2, Below.refl _ _⟩
  case round =>
    clear h h2
    obtain ⟨k, hk, rfl, hp, hq, hb⟩ := hrel
    have hsz := hb.size
    by_cases hlt : k < n
    · obtain ⟨b, off, a1, c1, a2, c2, m1, f1, m2, f2, rfl, hbB, hd, x0, x1, r1, r2⟩ := hp.at_ hlt
      obtain ⟨b', off', a1', c1', a2', c2', m1', f1', m2', f2', rfl, hbB', hd', y0, y1, r1', r2'⟩ := hq.at_ hlt
      rw [hd] at hd'
      injection hd' with e1 e2 e3 e4
      subst e1 e2 e3 e4
      have hd2 := HD.out k hlt
      rw [hd] at hd2
      have hm1 : m1 ≤ 1048576 := hd2.1
      have hm2 : m2 ≤ 1048576 := hd2.2
      have hk0 : (0 : Int) ≤ (k : Int) := by omega
      have hk1 : (k : Int) < (n : Int) := by omega
      have R1 := Lib.hid (r1.up hsz)
      have R2 := Lib.hid (r2.up hsz)
      have R3 := Lib.hid (r1'.up hsz)
      have R4 := Lib.hid (r2'.up hsz)
      clear hd hd2 r1 r2 r1' r2'
      go_wp2_with fail
      go_region_held3 (fun V => V.cell? ⟨b, off + k * 2, none⟩ = some (.slice a1 m1 c1) ∧ V.cell? ⟨b, off + k * 2 + 1, none⟩ = some (.slice a2 m2 c2) ∧ V.cell? ⟨b', off' + k * 2, none⟩ = some (.slice a1' m1 c1') ∧ V.cell? ⟨b', off' + k * 2 + 1, none⟩ = some (.slice a2' m2 c2')) (go_keep)
        (first | (go_at_call 16; refine (eqPath_self _ _ _ _ _ _ _ _ _ _ _ _ _ R1.out.topd R2.out.topd R3.out.topd R4.out.topd (by omega) (by omega)).mono ?_; rintro e w1 ⟨rfl, hn1⟩; have hn1 := undrew hn1; have z0 := hn1.cell (p := ⟨b, off + k * 2, none⟩) (by simp; omega); have z1 := hn1.cell (p := ⟨b, off + k * 2 + 1, none⟩) (by simp; omega); have z2 := hn1.cell (p := ⟨b', off' + k * 2, none⟩) (by simp; omega); have z3 := hn1.cell (p := ⟨b', off' + k * 2 + 1, none⟩) (by simp; omega)))
      have hn2 : Below wr.heap.size wr w1 := ⟨hn1.os, hn1.tape, hn1.output, hn1.size, hn1.block⟩
      have hp1 := hp.below (hn2.mono hsz)
      have hq1 := hq.below (hn2.mono hsz)
      have hb1 := bl hb (Nat.le_refl _) hn2
      clear hp hq hb hn1 hn2 z0 z1 z2 z3 x0 x1 y0 y1
      go_wp2
      go_roundw
      case rel => exact ⟨k + 1, by omega, by go_num, hp1, hq1, hb1⟩
      case measure => simp [intOf]; omega
    · obtain rfl : k = n := by omega
      go_wp2
      go_ret
      exact ⟨rfl, hb⟩
end Go.Proofs.Ythlegnghojbcaaa
