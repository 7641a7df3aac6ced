/-
  Contracts: slices.SortFunc by the closure of PathsOrder, at few elements; the program's PathsOrder.
-/
import Derived.Test.YtjppkcfbhhjniaaPathSo
import Derived.Test.YtjppkcfbhhjniaaK1
import Derived.RegionTactic
import Derived.ChangeAlike
namespace Go.Proofs.Ytjppkcfbhhjniaa
open Go.RowKit Go.Deep
set_option linter.unusedVariables false

theorem cNan (a : Int) (w : World) : Calls Try.prog 75 #[.int .i64 a] w fun e w' => e = .returned (.bool false) ∧ w = w' := by
  have d : (a != a) = false := by simp
  go_enter Try.func75, Try.ntmps75
  go_wp2
  go_ret
  exact ⟨rfl, rfl⟩
/-- cmp.Compare. -/
def cmpI (a b : Int) : Int := if a < b then -1 else if b < a then 1 else 0
theorem cCmp (a b : Int) (w : World) : Calls Try.prog 54 #[.int .i64 a, .int .i64 b] w fun e w' => e = .returned (.int .i64 (cmpI a b)) ∧ w = w' := by
  by_cases h1 : a < b
  · have d1 : decide (a < b) = true := decide_eq_true h1
    have hr := hide (show cmpI a b = -1 from if_pos h1)
    clear h1
    go_enter Try.func54, Try.ntmps54
    go_wp2_with (go_at_call 75; refine (cNan _ _).mono ?_; rintro e w' ⟨rfl, rfl⟩)
    go_ret
    exact ⟨ret_int hr.symm, rfl⟩
  have d1 : decide (a < b) = false := decide_eq_false h1
  by_cases h2 : b < a
  · have d2 : decide (b < a) = true := decide_eq_true h2
    have hr := hide (show cmpI a b = 1 by unfold cmpI; rw [if_neg h1, if_pos h2])
    clear h1 h2
    go_enter Try.func54, Try.ntmps54
    go_wp2_with (go_at_call 75; refine (cNan _ _).mono ?_; rintro e w' ⟨rfl, rfl⟩)
    go_ret
    exact ⟨ret_int hr.symm, rfl⟩
  · have d2 : decide (b < a) = false := decide_eq_false h2
    have hr := hide (show cmpI a b = 0 by unfold cmpI; rw [if_neg h1, if_neg h2])
    clear h1 h2
    go_enter Try.func54, Try.ntmps54
    go_wp2_with (go_at_call 75; refine (cNan _ _).mono ?_; rintro e w' ⟨rfl, rfl⟩)
    go_ret
    exact ⟨ret_int hr.symm, rfl⟩
theorem cmpI_neg {a b : Int} (h : a < b) : decide (cmpI a b < 0) = true := by unfold cmpI; rw [if_pos h]; rfl
theorem cmpI_non {a b : Int} (h : ¬ a < b) : decide (cmpI a b < 0) = false := by
  unfold cmpI
  rw [if_neg h]
  split <;> rfl
/-- What the closure has captured, and the paths. -/
def OrB (B : Nat) (A : Option Addr) (m c : Nat) (D : Nat → PD) (k : Nat) (x y : Nat) (w : World) : Prop :=
  PsRn w B A m D ∧ Bx w x [.slice A m c] ∧ Bx w y [.int .i64 (k : Int)]
section
variable {B m c k x y : Nat} {A : Option Addr} {D : Nat → PD} {w w' : World}
theorem OrB.call (h : OrB B A m c D k x y w) (hB : B ≤ w.heap.size) (hb : Below w.heap.size w w') : OrB B A m c D k x y w' := ⟨h.1.call hB hb, h.2.1.call hb, h.2.2.call hb⟩
theorem OrB.drewN (h : OrB B A m c D k x y w) (q : Nat) : OrB B A m c D k x y (w.drewN q) := h
theorem OrB.store (h : OrB B A m c D k x y w) {a : Addr} (hB : B ≤ a.block) (hx : x ≠ a.block) (hy : y ≠ a.block) (v : Value) : OrB B A m c D k x y (w.setCell a v) :=
  ⟨h.1.keep (fun k hk => blk_setCell_other _ _ _ _ (by omega)), h.2.1.other hx _, h.2.2.other hy _⟩
theorem OrB.cells (h : OrB B A m c D k x y w) : w.cell? ⟨x, 0, none⟩ = some (.slice A m c) ∧ w.cell? ⟨y, 0, none⟩ = some (.int .i64 (k : Int)) :=
  ⟨h.2.1.cell (i := 0) (by simp), h.2.2.cell (i := 0) (by simp)⟩
end
/-- The closure: it compares when two trains enter. -/
def CmpPost (w : World) (v : Int) (e : Ending) (w' : World) : Prop := e = .returned (.int .i64 v) ∧ ∃ q, w' = w.drewN q
set_option maxHeartbeats 2000000 in
theorem iCmpAt (B : Nat) (A : Option Addr) (m c : Nat) (D : Nat → PD) (n : Int) (k : Nat) (x y : Nat) (i j : Nat) (w : World) (h : OrB B A m c D k x y w) (hv : hasS n D m k = true) (hi : i < m) (hj : j < m) :
    Calls Try.prog 53 #[.int .i64 (i : Int), .int .i64 (j : Int), .pointer (some ⟨x, 0, none⟩), .pointer (some ⟨y, 0, none⟩)] w (CmpPost w (cmpI ((D i).f1 k) ((D j).f1 k))) := by
  obtain ⟨hpv, h0, hkn⟩ := hasS_iff.1 hv
  have hm8 : m ≤ 8 := (pathsV_iff.1 hpv).2.2.1
  have hati := pathsV_at hpv hi
  have hatj := pathsV_at hpv hj
  obtain ⟨c0, c1⟩ := h.cells
  obtain ⟨b1, off, a1, d1, a2, d2, n1, f1, n2, f2, rfl, hbB, hD, x0, x1, r1, r2⟩ := h.1.at_ hi
  obtain ⟨b1', off', a1', d1', a2', d2', n1', f1', n2', f2', eA, hbB', hD', x0', x1', r1', r2'⟩ := h.1.at_ hj
  simp only [Option.some.injEq, Addr.mk.injEq, and_true] at eA
  obtain ⟨rfl, rfl⟩ := eA
  rw [hD] at hati
  rw [hD'] at hatj
  obtain ⟨hn1, -, -⟩ := hati
  obtain ⟨hn1', -, -⟩ := hatj
  simp only at hn1 hn1'
  obtain ⟨e1, o1, rfl, hd1, hc1⟩ := r1 (by omega)
  obtain ⟨e2, o2, rfl, hd2, hc2⟩ := r1' (by omega)
  have z1 := hc1 k (by omega)
  have z2 := hc2 k (by omega)
  have hr := hide (show cmpI ((D i).f1 k) ((D j).f1 k) = cmpI (f1 k) (f1' k) by rw [hD, hD'])
  have j0 : (0 : Int) ≤ (i : Int) := by omega
  have j1 : (i : Int) < (m : Int) := by omega
  have j2 : (0 : Int) ≤ (j : Int) := by omega
  have j3 : (j : Int) < (m : Int) := by omega
  have j6 : (0 : Int) ≤ (k : Int) := by omega
  have j7 : (k : Int) < (n1 : Int) := by omega
  have j8 : (k : Int) < (n1' : Int) := by omega
  generalize f1 k = u at *
  generalize f1' k = u' at *
  clear hc1 hc2 hD hD' r2 r2' hn1 hn1' hv hpv h r1 r1'
  go_enter Try.func53, Try.ntmps53
  go_wp2
  go_quiet ((go_at_call 54; exact Calls.quiet_of_same ((cCmp u u' _).mono fun _ _ ⟨h1, h2⟩ => ⟨h1, h2.symm⟩)))
  go_wp2
  go_ret
  exact ⟨ret_int hr.symm, _, rfl⟩
end Go.Proofs.Ytjppkcfbhhjniaa
