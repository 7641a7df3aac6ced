/-
  Contracts: when do two paths clash? The program's and the reference's.
-/
import Derived.Test.YtjppkcfbhhjniaaPathV
import Derived.Test.YtjppkcfbhhjniaaPathC
namespace Go.Proofs.Ytjppkcfbhhjniaa
open Go.RowKit
set_option linter.unusedVariables false

theorem clash_yes {p q : PD} {k : Nat} (h1 : p.f1 k < q.f2 k) (h2 : q.f1 k < p.f2 k) : clash p q k = true := by simp [clash, h1, h2]
theorem clash_no1 {p q : PD} {k : Nat} (h1 : ¬ p.f1 k < q.f2 k) : clash p q k = false := by unfold clash; rw [decide_eq_false h1]; rfl
theorem clash_no2 {p q : PD} {k : Nat} (h1 : ¬ q.f1 k < p.f2 k) : clash p q k = false := by unfold clash; rw [decide_eq_false h1]; simp
set_option maxHeartbeats 2000000 in
theorem iClashes (b off b' off' : Nat) (a1 a2 d1 d2 : Option Addr) (n1 c1 n2 c2 m1 e1 m2 e2 : Nat) (f1 f2 g1 g2 : Nat → Int) (k : Nat) (w : World) (x0 : w.cell? ⟨b, off, none⟩ = some (.slice a1 n1 c1)) (x1 : w.cell? ⟨b, off + 1, none⟩ = some (.slice a2 n2 c2))
    (y0 : w.cell? ⟨b', off', none⟩ = some (.slice d1 m1 e1)) (y1 : w.cell? ⟨b', off' + 1, none⟩ = some (.slice d2 m2 e2)) (r1 : Rn w w.heap.size a1 n1 f1) (r2 : Rn w w.heap.size a2 n2 f2) (s1 : Rn w w.heap.size d1 m1 g1) (s2 : Rn w w.heap.size d2 m2 g2)
    (hk : k < n1 ∧ k < n2 ∧ k < m1 ∧ k < m2) :
    Calls Try.prog 64 #[.pointer (some ⟨b, off, none⟩), .pointer (some ⟨b', off', none⟩), .int .i64 (k : Int)] w fun e w' => e = .returned (.bool (clash ⟨n1, f1, n2, f2⟩ ⟨m1, g1, m2, g2⟩ k)) ∧ ∃ q, w' = w.drewN q := by
  obtain ⟨hk1, hk2, hk3, hk4⟩ := hk
  obtain ⟨p1, o1, rfl, hp1, h1⟩ := r1 (by omega)
  obtain ⟨p2, o2, rfl, hp2, h2⟩ := r2 (by omega)
  obtain ⟨p3, o3, rfl, hp3, h3⟩ := s1 (by omega)
  obtain ⟨p4, o4, rfl, hp4, h4⟩ := s2 (by omega)
  have z1 := h1 k hk1
  have z2 := h2 k hk2
  have z3 := h3 k hk3
  have z4 := h4 k hk4
  have i0 : (0 : Int) ≤ (k : Int) := by omega
  have i1 : (k : Int) < (n1 : Int) := by omega
  have i2 : (k : Int) < (n2 : Int) := by omega
  have i3 : (k : Int) < (m1 : Int) := by omega
  have i4 : (k : Int) < (m2 : Int) := by omega
  clear h1 h2 h3 h4 r1 r2 s1 s2
  by_cases hA : f1 k < g2 k
  · by_cases hB : g1 k < f2 k
    · have hr := hide (clash_yes (p := ⟨n1, f1, n2, f2⟩) (q := ⟨m1, g1, m2, g2⟩) hA hB)
      have q1 : decide (f1 k < g2 k) = true := decide_eq_true hA
      have q2 : decide (g1 k < f2 k) = true := decide_eq_true hB
      clear hA hB
      go_enter Try.func64, Try.ntmps64
      go_wp2
      go_quiet (fail)
      go_wp2
      go_ret
      exact ⟨ret_bool hr.symm, _, rfl⟩
    · have hr := hide (clash_no2 (p := ⟨n1, f1, n2, f2⟩) (q := ⟨m1, g1, m2, g2⟩) hB)
      have q1 : decide (f1 k < g2 k) = true := decide_eq_true hA
      have q2 : decide (g1 k < f2 k) = false := decide_eq_false hB
      clear hA hB
      go_enter Try.func64, Try.ntmps64
      go_wp2
      go_quiet (fail)
      go_wp2
      go_ret
      exact ⟨ret_bool hr.symm, _, rfl⟩
  · have hr := hide (clash_no1 (p := ⟨n1, f1, n2, f2⟩) (q := ⟨m1, g1, m2, g2⟩) hA)
    have q1 : decide (f1 k < g2 k) = false := decide_eq_false hA
    clear hA
    go_enter Try.func64, Try.ntmps64
    go_wp2
    go_quiet (fail)
    go_wp2
    go_ret
    exact ⟨ret_bool hr.symm, _, rfl⟩
set_option maxHeartbeats 2000000 in
theorem sClash (a1 a2 d1 d2 : Option Addr) (n1 c1 n2 c2 m1 e1 m2 e2 : Nat) (f1 f2 g1 g2 : Nat → Int) (k : Nat) (w : World) (r1 : Rn w w.heap.size a1 n1 f1) (r2 : Rn w w.heap.size a2 n2 f2) (s1 : Rn w w.heap.size d1 m1 g1) (s2 : Rn w w.heap.size d2 m2 g2)
    (hk : k < n1 ∧ k < n2 ∧ k < m1 ∧ k < m2) :
    Calls Try.prog 65 #[.agg #[.slice a1 n1 c1, .slice a2 n2 c2], .agg #[.slice d1 m1 e1, .slice d2 m2 e2], .int .i64 (k : Int)] w fun e w' => e = .returned (.bool (clash ⟨n1, f1, n2, f2⟩ ⟨m1, g1, m2, g2⟩ k)) ∧ Below w.heap.size w w' := by
  obtain ⟨hk1, hk2, hk3, hk4⟩ := hk
  obtain ⟨p1, o1, rfl, hp1, h1⟩ := r1 (by omega)
  obtain ⟨p2, o2, rfl, hp2, h2⟩ := r2 (by omega)
  obtain ⟨p3, o3, rfl, hp3, h3⟩ := s1 (by omega)
  obtain ⟨p4, o4, rfl, hp4, h4⟩ := s2 (by omega)
  have z1 := h1 k hk1
  have z2 := h2 k hk2
  have z3 := h3 k hk3
  have z4 := h4 k hk4
  have i0 : (0 : Int) ≤ (k : Int) := by omega
  have i1 : (k : Int) < (n1 : Int) := by omega
  have i2 : (k : Int) < (n2 : Int) := by omega
  have i3 : (k : Int) < (m1 : Int) := by omega
  have i4 : (k : Int) < (m2 : Int) := by omega
  clear h1 h2 h3 h4 r1 r2 s1 s2
  by_cases hA : f1 k < g2 k
  · by_cases hB : g1 k < f2 k
    · have hr := hide (clash_yes (p := ⟨n1, f1, n2, f2⟩) (q := ⟨m1, g1, m2, g2⟩) hA hB)
      have q1 : decide (f1 k < g2 k) = true := decide_eq_true hA
      have q2 : decide (g1 k < f2 k) = true := decide_eq_true hB
      clear hA hB
      go_enter Try.func65, Try.ntmps65
      go_wp2
      go_quiet (fail)
      go_wp2
      go_ret
      exact ⟨ret_bool hr.symm, (by go_grown <;> (refine below_dn ?_ _ <;> go_grown <;> (refine below_dn ?_ _ <;> go_grown)))⟩
    · have hr := hide (clash_no2 (p := ⟨n1, f1, n2, f2⟩) (q := ⟨m1, g1, m2, g2⟩) hB)
      have q1 : decide (f1 k < g2 k) = true := decide_eq_true hA
      have q2 : decide (g1 k < f2 k) = false := decide_eq_false hB
      clear hA hB
      go_enter Try.func65, Try.ntmps65
      go_wp2
      go_quiet (fail)
      go_wp2
      go_ret
      exact ⟨ret_bool hr.symm, (by go_grown <;> (refine below_dn ?_ _ <;> go_grown <;> (refine below_dn ?_ _ <;> go_grown)))⟩
  · have hr := hide (clash_no1 (p := ⟨n1, f1, n2, f2⟩) (q := ⟨m1, g1, m2, g2⟩) hA)
    have q1 : decide (f1 k < g2 k) = false := decide_eq_false hA
    clear hA
    go_enter Try.func65, Try.ntmps65
    go_wp2
    go_quiet (fail)
    go_wp2
    go_ret
    exact ⟨ret_bool hr.symm, (by go_grown <;> (refine below_dn ?_ _ <;> go_grown <;> (refine below_dn ?_ _ <;> go_grown)))⟩
end Go.Proofs.Ytjppkcfbhhjniaa
