/-
  Contract of the program's PathsFree.
-/
import Derived.Test.YtjppkcfbhhjniaaPathF
namespace Go.Proofs.Ytjppkcfbhhjniaa
open Go.RowKit
set_option linter.unusedVariables false

/-- What the closure has captured, and the paths. -/
def FrB (B : Nat) (A : Option Addr) (m c : Nat) (D : Nat → PD) (k : Nat) (run : Int) (x y z : Nat) (w : World) : Prop :=
  PsRn w B A m D ∧ Bx w x [.slice A m c] ∧ Bx w y [.int .i64 (k : Int)] ∧ Bx w z [.int .i64 run]
section
variable {B m c k x y z : Nat} {A : Option Addr} {D : Nat → PD} {run : Int} {w w' : World}
theorem FrB.call (h : FrB B A m c D k run x y z w) (hB : B ≤ w.heap.size) (hb : Below w.heap.size w w') : FrB B A m c D k run x y z w' :=
  ⟨h.1.call hB hb, h.2.1.call hb, h.2.2.1.call hb, h.2.2.2.call hb⟩
theorem FrB.drewN (h : FrB B A m c D k run x y z w) (q : Nat) : FrB B A m c D k run x y z (w.drewN q) := h
theorem FrB.drew (h : FrB B A m c D k run x y z w) : FrB B A m c D k run x y z w.drew := h
theorem FrB.cells (h : FrB B A m c D k run x y z w) : w.cell? ⟨x, 0, none⟩ = some (.slice A m c) ∧ w.cell? ⟨y, 0, none⟩ = some (.int .i64 (k : Int)) ∧ w.cell? ⟨z, 0, none⟩ = some (.int .i64 run) :=
  ⟨h.2.1.cell (i := 0) (by simp), h.2.2.1.cell (i := 0) (by simp), h.2.2.2.cell (i := 0) (by simp)⟩
end
set_option maxHeartbeats 2000000 in
theorem iFreeAt (b : Bool) (B : Nat) (A : Option Addr) (m c : Nat) (D : Nat → PD) (n : Int) (k : Nat) (run t : Int) (x y z : Nat) (w : World) (h : FrB B A m c D k run x y z w) (hv : hasS n D m k = true) (hr : 1 ≤ run ∧ run ≤ 100) (ht : 0 ≤ t ∧ t ≤ 2000)
    (hb : b = true ↔ ¬ hit (fun i => (D i).f1 k) (fun i => (D i).f2 k) m run t) :
    Calls Try.prog 67 #[.int .i64 t, .pointer (some ⟨x, 0, none⟩), .pointer (some ⟨y, 0, none⟩), .pointer (some ⟨z, 0, none⟩)] w fun e w' => e = .returned (.bool b) ∧ Below w.heap.size w w' := by
  obtain ⟨hpv, h0, hkn⟩ := hasS_iff.1 hv
  have hm8 : m ≤ 8 := (pathsV_iff.1 hpv).2.2.1
  have PV := Lib.hid hpv
  have HB := Lib.hid hb
  obtain ⟨c0, c1, c2⟩ := h.cells
  have H0 := Lib.hid h
  clear hv hpv hb h
  go_enter Try.func67, Try.ntmps67
  go_wp2
  go_loopw [9] (fun i wr => ∃ j : Nat, j ≤ m ∧ i = .int .i64 j ∧ Hid (∀ i, i < j → ¬ (t < (D i).f2 k ∧ (D i).f1 k < t + run)) ∧ Hid (FrB B A m c D k run x y z wr) ∧ Below w.heap.size w wr) (fun i _ => m - (intOf i).toNat)
  case atStart => exact ⟨0, Nat.zero_le _, rfl, (fun i hi => absurd hi (by omega)), H0, Below.refl _ _⟩
  case round =>
    clear H0 c0 c1 c2
    obtain ⟨j, hj, rfl, hall, hf, hb⟩ := hrel
    obtain ⟨c0, c1, c2⟩ := hf.out.cells
    by_cases hlt : j < m
    · obtain ⟨b1, off, a1, d1, a2, d2, n1, f1, n2, f2, rfl, hbB, hD, x0, x1, r1, r2⟩ := hf.out.1.at_ hlt
      have hat := pathsV_at PV.out hlt
      have hF1 : (D j).f1 k = f1 k := by rw [hD]
      have hG1 : (D j).f2 k = f2 k := by rw [hD]
      rw [hD] at hat
      obtain ⟨hn1, hn2, htm⟩ := hat
      have ht2 := htm k hkn
      simp only at hn1 hn2 ht2
      obtain ⟨b5, b2, b3⟩ := ht2
      obtain ⟨e1, o1, rfl, hd1, hc1⟩ := r1 (by omega)
      obtain ⟨e2, o2, rfl, hd2, hc2⟩ := r2 (by omega)
      have z1 := hc1 k (by omega)
      have z2 := hc2 k (by omega)
      have j0 : (0 : Int) ≤ (j : Int) := by omega
      have j1 : (j : Int) < (m : Int) := by omega
      have j6 : (0 : Int) ≤ (k : Int) := by omega
      have j7 : (k : Int) < (n1 : Int) := by omega
      have j8 : (k : Int) < (n2 : Int) := by omega
      have y3 : IntKind.i64.wrap (t + run) = t + run := IntWalk.i64_in _ (by omega)
      clear hc1 hc2 htm hD r1 r2 hn1 hn2
      by_cases g1 : t < f2 k
      · have d1 : decide (t < f2 k) = true := decide_eq_true g1
        by_cases g2 : f1 k < t + run
        · have d2 : decide (f1 k < t + run) = true := decide_eq_true g2
          have hbf : b = false := by
            cases b
            · rfl
            · exact absurd ⟨j, hlt, by show t < (D j).f2 k; omega, by show (D j).f1 k < t + run; omega⟩ (HB.out.1 rfl)
          subst hbf
          clear g1 g2 hF1 hG1 HB hall
          go_wp2
          go_quiet (fail)
          go_wp2
          go_ret
          exact ⟨rfl, below_dn hb _⟩
        · have d2 : decide (f1 k < t + run) = false := decide_eq_false g2
          have hall2 : Hid (∀ i, i < j + 1 → ¬ (t < (D i).f2 k ∧ (D i).f1 k < t + run)) := fun i hi => by
            by_cases e : i = j
            · subst e; rw [hF1]; exact fun x => g2 x.2
            · exact hall i (by omega)
          clear g1 g2 hF1 hG1 hall
          go_wp2
          go_quiet (fail)
          clear y3
          go_wp2
          go_roundw
          case rel => exact ⟨j + 1, by omega, by go_num, hall2, hf, below_dn hb _⟩
          case measure => simp [intOf]; omega
      · have d1 : decide (t < f2 k) = false := decide_eq_false g1
        have hall2 : Hid (∀ i, i < j + 1 → ¬ (t < (D i).f2 k ∧ (D i).f1 k < t + run)) := fun i hi => by
          by_cases e : i = j
          · subst e; rw [hG1]; exact fun x => g1 x.1
          · exact hall i (by omega)
        clear g1 hF1 hG1 hall
        go_wp2
        go_quiet (fail)
        clear y3
        go_wp2
        go_roundw
        case rel => exact ⟨j + 1, by omega, by go_num, hall2, hf, below_dn hb _⟩
        case measure => simp [intOf]; omega
    · obtain rfl : j = m := by omega
      have hbt : b = true := HB.out.2 (fun ⟨i, hi, h1⟩ => hall.out i hi h1)
      subst hbt
      go_wp2
      go_ret
      exact ⟨rfl, hb⟩
set_option maxHeartbeats 2000000 in
theorem iFree_yes (A : Option Addr) (m c : Nat) (D : Nat → PD) (n : Int) (k : Nat) (frm run : Int) (w : World) (h : PsRn w w.heap.size A m D) (hv : freeOK n D m k frm run) (v : Int) (ok : Bool) (hF : IsFree (fun i => (D i).f1 k) (fun i => (D i).f2 k) m frm run v ok) :
    Calls Try.prog 39 #[.int .i64 n, .slice A m c, .int .i64 (k : Int), .int .i64 frm, .int .i64 run] w fun e w' => e = .returned (.tuple #[.int .i64 v, .bool ok]) ∧ Below w.heap.size w w' := by
  obtain ⟨hv, hr1, hr2, hf1⟩ := hv
  obtain ⟨hpv, h0, hkn⟩ := hasS_iff.1 hv
  have hm8 : m ≤ 8 := (pathsV_iff.1 hpv).2.2.1
  have VV := Lib.hid hv
  have d1 : decide (run < 1) = false := decide_eq_false (by omega)
  have d2 : decide (100 < run) = false := decide_eq_false (by omega)
  have d3 : decide (frm < 0) = false := decide_eq_false (by omega)
  have y1 : IntKind.i64.wrap (2000 - run) = 2000 - run := IntWalk.i64_in _ (by omega)
  have FR := Lib.hid hF
  have hfb : FrB w.heap.size A m c D k run w.heap.size (w.heap.size + 1) (w.heap.size + 1 + 1) (((w.alloc (.cells #[.slice A m c] 23)).alloc (.cells #[.int .i64 (k : Int)] 3)).alloc (.cells #[.int .i64 run] 3)) :=
    ⟨((h.alloc (Nat.le_refl _) _).alloc (by simp) _).alloc (by simp; omega) _, ((Bx.new w [.slice A m c] _).alloc _).alloc _, by have := (Bx.new (w.alloc (.cells #[.slice A m c] 23)) [.int .i64 (k : Int)] 3).alloc (.cells #[.int .i64 run] 3); simpa using this, by have := Bx.new ((w.alloc (.cells #[.slice A m c] 23)).alloc (.cells #[.int .i64 (k : Int)] 3)) [.int .i64 run] 3; simpa using this⟩
  have h3 := ((h.top (.cells #[.slice A m c] 23)).top (.cells #[.int .i64 (k : Int)] 3)).top (.cells #[.int .i64 run] 3)
  clear hF hv hpv h
  have hmf : ∀ (fn : Fn) (first cap : Array Value) (w : World), (Instr.makeFunc fn first cap).run Try.prog w = .ok (.func fn first cap) w := fun _ _ _ _ => rfl
  go_enter Try.func39, Try.ntmps39
  go_wp2_with fail
  refine (iHasS_is true A m c D n k _ VV.out h3 (by omega)).mono ?_
  rintro e w1 ⟨rfl, hb⟩
  have H1 := Lib.hid (hfb.call (by simp; omega) hb)
  have hb : Below w.heap.size w w1 := bl (show Below w.heap.size w (((w.alloc (.cells #[.slice A m c] 23)).alloc (.cells #[.int .i64 (k : Int)] 3)).alloc (.cells #[.int .i64 run] 3)) by go_grown) (Nat.le_refl _) hb
  clear hfb h3
  obtain ⟨c0, c1, c2⟩ := H1.out.cells
  go_wp2_with fail
  go_loopw [13] (fun t wr => ∃ u : Int, frm ≤ u ∧ t = .int .i64 u ∧ Hid (∀ s, frm ≤ s → s < u → hit (fun i => (D i).f1 k) (fun i => (D i).f2 k) m run s) ∧ Hid (FrB w.heap.size A m c D k run w.heap.size (w.heap.size + 1) (w.heap.size + 1 + 1) wr) ∧ Below w.heap.size w wr) (fun t _ => (2001 - intOf t).toNat)
  case atStart => exact ⟨frm, Int.le_refl _, rfl, (fun s h1 h2 => absurd h2 (by omega)), H1, hb⟩
  case round =>
    clear hb H1 c0 c1 c2
    obtain ⟨u, hu, rfl, hall, hf, hb⟩ := hrel
    obtain ⟨c0, c1, c2⟩ := hf.out.cells
    have hs := hb.size
    by_cases hlt : u ≤ 2000 - run
    · have d4 : decide (u ≤ 2000 - run) = true := decide_eq_true hlt
      by_cases hh : hit (fun i => (D i).f1 k) (fun i => (D i).f2 k) m run u
      · have hH := Lib.hid hh
        clear hh
        go_wp2_with (go_at_call 67; refine (iFreeAt false w.heap.size A m c D n k run u _ _ _ _ hf.out VV.out ⟨hr1, hr2⟩ ⟨by omega, by omega⟩ (by simpa using hH.out)).mono ?_; rintro e w2 ⟨rfl, hn⟩; have hf2 := Lib.hid (hf.out.call hs hn); have hb2 := bl hb (Nat.le_refl _) hn; clear hn)
        go_roundw
        case rel => exact ⟨u + 1, by omega, by go_num, (fun s h1 h2 => by by_cases e : s = u; (subst e; exact hH.out); exact hall s h1 (by omega)), hf2, hb2⟩
        case measure => simp [intOf]; omega
      · obtain ⟨rfl, rfl⟩ := FR.out.eq (.inl ⟨rfl, hu, by omega, hh, hall.out⟩)
        have hH := Lib.hid hh
        clear hh
        go_wp2_with (go_at_call 67; refine (iFreeAt true w.heap.size A m c D n k run v _ _ _ _ hf.out VV.out ⟨hr1, hr2⟩ ⟨by omega, by omega⟩ (by simpa using hH.out)).mono ?_; rintro e w2 ⟨rfl, hn⟩; have hb2 := bl hb (Nat.le_refl _) hn; clear hn)
        go_ret2
        exact ⟨rfl, hb2⟩
    · have d4 : decide (u ≤ 2000 - run) = false := decide_eq_false hlt
      obtain ⟨rfl, rfl⟩ := FR.out.eq (.inr ⟨rfl, rfl, fun s h1 h2 => hall.out s h1 (by omega)⟩)
      go_wp2
      go_ret2
      exact ⟨rfl, hb⟩
end Go.Proofs.Ytjppkcfbhhjniaa
