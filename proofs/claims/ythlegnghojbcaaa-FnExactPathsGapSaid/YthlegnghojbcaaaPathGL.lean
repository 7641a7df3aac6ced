/-
  The walk of FnExactPathsGap.
-/
import Derived.Test.YthlegnghojbcaaaPathGd
import Derived.Test.YthlegnghojbcaaaPathFr
import Derived.Test.YthlegnghojbcaaaPathSC
namespace Go.Proofs.Ythlegnghojbcaaa
open Go.RowKit
set_option linter.unusedVariables false

set_option maxHeartbeats 4000000 in
theorem x_FnExactPathsGap (n : Int) (A : Option Addr) (m c : Nat) (D : Nat → PD) (k : Int) (w : World) (h : PsRn w w.heap.size A m D) (hc : m ≤ 9223372036854775807) (hmx : ∀ i, i < m → (D i).m1 ≤ 9223372036854775807 ∧ (D i).m2 ≤ 9223372036854775807) (hsz : (m : Int) + tot D m ≤ 1048576) (v : Int)
    (hS : (∀ (W : World) (E : Option Addr) (d : Nat), PsRn W W.heap.size E m D → Calls Try.prog 39 #[.int .i64 n, .slice E m d, .int .i64 k] W fun e w' => e = .returned (.int .i64 v) ∧ Below W.heap.size W w'))
    (hI : (∀ (W : World) (E : Option Addr) (d : Nat), PsRn W W.heap.size E m D → Calls Try.prog 40 #[.int .i64 n, .slice E m d, .int .i64 k] W fun e w' => e = .returned (.int .i64 v) ∧ Below W.heap.size W w')) :
    Calls Try.prog 10 #[.int .i64 n, .slice A m c, .int .i64 k] w fun e w' => e = .returned (.bool true) ∧ Below w.heap.size w w' := by
  have B0 : Below w.heap.size w w := Below.refl _ _
  have H0 : Hold w [psA w.heap.size A m D] := (Hold.nil w).ps (Nat.le_refl _) h
  have Y := Lib.hid (szV_yes (n := m) (D := D) (left := 1048576) hsz)
  have HD := Lib.hid (show ∀ i, i < m → (D i).m1 ≤ 1048576 ∧ (D i).m2 ≤ 1048576 from fun i hi => by have := tot_at D hi; omega)
  have HX := Lib.hid hmx
  have S := Lib.hid hS
  have I := Lib.hid hI
  clear hS hI h hmx
  generalize tot D m = t at *
  go_enter Try.func10, Try.ntmps10
  go_wp2_with fail
  refine (szPathS_any A m c D 1048576 _ H0.psup (by omega) (by omega) hc HX.out).mono ?_
  rintro e w1 ⟨rfl, hn⟩
  have H1 := H0.call hn
  have B1 : Below w.heap.size w w1 := bl (by go_grown) (by first | exact Nat.le_refl _ | (simp; done) | (simp; omega)) hn
  have s1 : w.heap.size ≤ w1.heap.size := by have := hn.size; simpa using this
  clear hn
  clear H0
  rw [Y.out]
  go_wp2_with fail
  refine (toPathS_any A m c D _ H1.psup (by omega) HD.out).mono ?_
  rintro e w2 ⟨rfl, ho, hn⟩
  have H2 := H1.call hn
  have B2 : Below w.heap.size w w2 := bl (by go_grown) (by first | exact Nat.le_refl _ | (simp; done) | (simp; omega)) hn
  have s2 : w1.heap.size ≤ w2.heap.size := by have := hn.size; simpa using this
  (try simp only [World.size_alloc] at ho)
  have H2 := H2.pt (Nat.le_refl _) ho
  clear hn ho
  clear H1
  go_wp2_with fail
  refine (S.out _ _ _ H2.ptrn).mono ?_
  rintro e w3 ⟨rfl, hn⟩
  have H3 := H2.call hn
  have B3 : Below w.heap.size w w3 := bl (by go_grown) (by first | exact Nat.le_refl _ | (simp; done) | (simp; omega)) hn
  have s3 : w2.heap.size ≤ w3.heap.size := by have := hn.size; simpa using this
  clear hn
  clear H2
  go_wp2_with fail
  refine (toPathS_any A m c D _ H3.tl.psup (by omega) HD.out).mono ?_
  rintro e w4 ⟨rfl, ho, hn⟩
  have H4 := H3.call hn
  have B4 : Below w.heap.size w w4 := bl (by go_grown) (by first | exact Nat.le_refl _ | (simp; done) | (simp; omega)) hn
  have s4 : w3.heap.size ≤ w4.heap.size := by have := hn.size; simpa using this
  (try simp only [World.size_alloc] at ho)
  have H4 := H4.pt (Nat.le_refl _) ho
  clear hn ho
  clear H3
  go_wp2_with fail
  refine (I.out _ _ _ H4.ptrn).mono ?_
  rintro e w5 ⟨rfl, hn⟩
  have H5 := H4.call hn
  have B5 : Below w.heap.size w w5 := bl (by go_grown) (by first | exact Nat.le_refl _ | (simp; done) | (simp; omega)) hn
  have s5 : w4.heap.size ≤ w5.heap.size := by have := hn.size; simpa using this
  clear hn
  clear H4
  go_wp2_with fail
  refine (toPathS_any A m c D _ H5.tl.tl.psup (by omega) HD.out).mono ?_
  rintro e w6 ⟨rfl, ho, hn⟩
  have H6 := H5.call hn
  have B6 : Below w.heap.size w w6 := bl (by go_grown) (by first | exact Nat.le_refl _ | (simp; done) | (simp; omega)) hn
  have s6 : w5.heap.size ≤ w6.heap.size := by have := hn.size; simpa using this
  (try simp only [World.size_alloc] at ho)
  have H6 := H6.pt (Nat.le_refl _) ho
  clear hn ho
  clear H5
  go_wp2_with fail
  refine (eqPathS_self _ _ _ _ _ _ _ H6.tl.ptrn H6.ptrn (by omega) HD.out).mono ?_
  rintro e w7 ⟨rfl, hn⟩
  have H7 := H6.call hn
  have B7 : Below w.heap.size w w7 := bl (by go_grown) (by first | exact Nat.le_refl _ | (simp; done) | (simp; omega)) hn
  have s7 : w6.heap.size ≤ w7.heap.size := by have := hn.size; simpa using this
  clear hn
  clear H6
  go_wp2
  go_ret
  exact ⟨rfl, by go_grown⟩
theorem w_FnExactPathsGap (n : Int) (A : Option Addr) (m c : Nat) (D : Nat → PD) (k : Int) (w : World) (_wn : (Lit.int .i64 n).wf = true) (q : IsPaths w A m c D) (_wk : (Lit.int .i64 k).wf = true) :
    Calls Try.prog 10 #[.int .i64 n, .slice A m c, .int .i64 k] w fun e w' => e = .returned (.bool true) ∧ Below w.heap.size w w' := by
  obtain ⟨hc, hm, hp, hx⟩ := q
  by_cases hsz : (m : Int) + tot D m ≤ 1048576
  · obtain ⟨v, hS, hI⟩ := d_FnExactPathsGap n k m D (by omega)
    exact x_FnExactPathsGap n A m c D k w hp (by omega) hx hsz v hS hI
  · have Y := Lib.hid (szV_no (n := m) (D := D) (left := 1048576) hsz)
    have HX := Lib.hid hx
    clear hsz hx
    go_enter Try.func10, Try.ntmps10
    go_wp2_with fail
    refine (szPathS_any A m c D 1048576 _ hp (by omega) (by omega) (by omega) HX.out).mono ?_
    rintro e w1 ⟨rfl, hn⟩
    rw [Y.out]
    clear hp
    go_wp2
    go_ret
    exact ⟨rfl, hn⟩
end Go.Proofs.Ythlegnghojbcaaa
