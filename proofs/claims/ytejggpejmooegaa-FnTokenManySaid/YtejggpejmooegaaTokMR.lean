/-
  Contracts of the reference's rows: l6tDraws, l6tMany, l6tOdd. (Printed by genTMR.py.)
-/
import Derived.Test.YtejggpejmooegaaTokMP
import Derived.Test.YtejggpejmooegaaBox
import Derived.Lib.Hide
import Derived.BigQuiet
import Derived.Deep.QuietTactic
import Derived.Deep.OwnRows
import Derived.Deep.RegionHeld3
namespace Go.Proofs.Ytejggpejmooegaa
open Go.RowKit Go.Deep
set_option linter.unusedVariables false

theorem intInfoT : (Try.prog.info? 3).map (fun i => (i.zero, i.size, i.bytes)) = some (some (.int .i64 0), 1, 8) := by kernel_rfl
theorem belowT {B : Nat} {w w1 w2 : World} (h : Below B w w1) (hB : B ≤ w.heap.size) (h2 : Below w1.heap.size w1 w2) : Below B w w2 :=
  ⟨h2.os.trans h.os, h2.tape.trans h.tape, h2.output.trans h.output, Nat.le_trans h.size h2.size, fun i hi => (h2.block i (Nat.lt_of_lt_of_le hi (Nat.le_trans hB h.size))).trans (h.block i hi)⟩
theorem rowT_set {w : World} {g T n : Nat} {F : Nat → Int} (h : w.rowIs g T n (fun j => .int .i64 (F j))) (p : Nat) (x : Int) : (w.setCell ⟨g, p, none⟩ (.int .i64 x)).rowIs g T n (fun j => .int .i64 (if j = p then x else F j)) :=
  (h.set (i := p) (v := .int .i64 x)).congr fun j _ => by
    by_cases e : j = p
    · rw [if_pos e, if_pos e]
    · rw [if_neg e, if_neg e]
theorem rowT_congr {w : World} {g T n : Nat} {F G : Nat → Int} (h : w.rowIs g T n (fun j => .int .i64 (F j))) (e : ∀ j, j < n → F j = G j) : w.rowIs g T n (fun j => .int .i64 (G j)) := h.congr fun j hj => by rw [e j hj]
/-- Numbers as a function of a place, the first a of them done. -/
def upto (W : Nat → Nat) (a j : Nat) : Int := if j < a then (W j : Int) else 0
theorem upto_put {W : Nat → Nat} {a : Nat} (j : Nat) : (if j = a then (W a : Int) else upto W a j) = upto W (a + 1) j := by
  unfold upto
  by_cases e : j = a
  · rw [if_pos e, if_pos (by omega), e]
  · rw [if_neg e]
    by_cases h : j < a
    · rw [if_pos h, if_pos (by omega)]
    · rw [if_neg h, if_neg (by omega)]
theorem upto_all {W : Nat → Nat} {n j : Nat} (h : j < n) : upto W n j = (W j : Int) := if_pos h
theorem upto_at {W : Nat → Nat} {n : Nat} : upto W n n = 0 := if_neg (by omega)
/-- What a row of the reference is handed back as. -/
def RowRes (w : World) (tot : Nat) (W : Nat → Nat) (e : Ending) (w' : World) : Prop := ∃ g : Nat, e = .returned (.slice (some ⟨g, 0, none⟩) (tot + 1) (tot + 1)) ∧ (w.heap.size ≤ g ∧ g < w'.heap.size) ∧ w'.rowIs g 3 (tot + 1) (fun j => .int .i64 (W j : Int)) ∧ Below w.heap.size w w'
theorem evWB (tot : Nat) (x : Nat) {k : Nat} (hk : k ≤ 15) : evW tot k x ≤ 4294967296 := Nat.le_trans (evW_le tot k x) (Nat.le_trans (Nat.pow_le_pow_right (by omega) hk) (by decide))
theorem odWB (tot : Nat) (x : Nat) {k : Nat} (hk : k ≤ 15) : odW tot k x ≤ 4294967296 := Nat.le_trans (odW_le tot k x) (Nat.le_trans (Nat.mul_le_mul_left 2 (Nat.pow_le_pow_right (by omega) hk)) (by decide))
theorem tDraws (a tot : Nat) (w : World) (ha : a ≤ tot) (ht : tot ≤ 1000) (v : Nat) (hv : Hid (v = min 1 a + min 1 (tot - a))) :
    Calls Try.prog 73 #[.int .i64 (a : Int), .int .i64 (tot : Int)] w fun e w' => e = .returned (.int .i64 (v : Int)) ∧ w' = w := by
  have y1 : IntKind.i64.wrap ((tot : Int) - (a : Int)) = (tot : Int) - (a : Int) := IntWalk.i64_in _ (by omega)
  have HV := Lib.hid hv.out
  clear hv
  go_enter Try.func73, Try.ntmps73
  go_wp2
  all_goals
    go_ret
    exact ⟨ret_int (by have := HV.out; omega), rfl⟩
set_option maxRecDepth 100000 in
set_option maxHeartbeats 4000000 in
theorem tMany (tot n K : Nat) (w : World) (ht : tot ≤ 12) (hn : n ≤ 30) (hK : n = 2 * K) :
    Calls Try.prog 65 #[.int .i64 (tot : Int), .int .i64 (n : Int)] w (RowRes w tot (evW tot K)) := by
  have hmk := run_make_row' (P := Try.prog) 53 3 (.int .i64 0) 8 Try.underlying53 intInfoT rfl .i64 .i64 (tot + 1) (by omega) (by omega)
  have hcn : ((tot + 1 : Nat) : Int) = (tot : Int) + 1 := by omega
  rw [hcn] at hmk
  have t0 : IntKind.i64.wrap ((tot : Int) + 1) = (tot : Int) + 1 := IntWalk.i64_in _ (by omega)
  have hKa : n ≤ 2 * K := Nat.le_of_eq hK
  have hKb : 2 * K ≤ n := Nat.le_of_eq hK.symm
  clear hK
  have R0 := Lib.hid (World.rowIs_made w (.int .i64 0) (tot + 1) 3)
  have HMK := Lib.hid hmk
  go_enter Try.func65, Try.ntmps65
  go_wp2_with fail
  obtain ⟨g0, hg0⟩ : ∃ g, w.heap.size = g := ⟨_, rfl⟩
  rw [hg0]
  have G0 := Lib.hid hg0
  have g0a : w.heap.size ≤ g0 := Nat.le_of_eq hg0
  have g0b : g0 ≤ w.heap.size := Nat.le_of_eq hg0.symm
  clear hg0 hmk
  go_loopw [6] (fun i wr => ∃ a : Nat, a ≤ tot + 1 ∧ i = .int .i64 (a : Int) ∧ Hid (wr.rowIs g0 3 (tot + 1) (fun j => .int .i64 (upto (evW tot 0) a j))) ∧ Hid (Below w.heap.size w wr)) (fun i _ => (tot + 1 - intOf i).toNat)
  case atStart => exact ⟨0, Nat.zero_le _, rfl, by have h9 := R0.out; rw [G0.out] at h9; exact rowT_congr (F := fun _ => 0) h9 (fun j hj => (if_neg (by omega)).symm), by show Below _ _ _; have hg9 := G0.out; go_grown⟩
  case round =>
    obtain ⟨a, ha, rfl, hR, hb⟩ := hrel
    by_cases hlt : a ≤ tot
    · have d1 : decide ((a : Int) ≤ (tot : Int)) = true := decide_eq_true (by omega)
      have d2 : decide (a ≤ tot) = true := decide_eq_true hlt
      have hfz := World.rowIs.frozen hR.out a
      have hx := World.rowIs.cell hR.out (show a < tot + 1 by omega)
      have a0 : (0 : Int) ≤ (a : Int) := by omega
      have a1 : (a : Int) < (tot : Int) + 1 := by omega
      have NR := Lib.hid (fun q : Nat => rowT_congr (G := upto (evW tot 0) (a + 1)) (rowT_set (w := wr.drewN q) hR.out a 1) (fun j hj => upto_put (W := evW tot 0) j))
      clear hR
      go_wp2
      go_roundw
      case rel => exact ⟨a + 1, by omega, by go_num, by first | exact NR.out 0 | exact NR.out 1, by show Below _ _ _; have h9 := hb.out; go_grown⟩
      case measure => simp [intOf]; omega
    have d1 : decide ((a : Int) ≤ (tot : Int)) = false := decide_eq_false (by omega)
    have d2 : decide (a ≤ tot) = false := decide_eq_false hlt
    have RW := Lib.hid (rowT_congr (G := fun j => (evW tot 0 j : Int)) hR.out (fun j hj => upto_all (by omega)))
    have HB := Lib.hid hb.out
    have HMK2 := Lib.hid HMK.out
    clear R0 hR hb
    have hmk := HMK.out
    go_wp2_with fail
    go_loopw [5, 7] (fun v i wq => ∃ (k g : Nat), k ≤ K ∧ i = .int .i64 (2 * (k : Int) + 2) ∧ v = .slice (some ⟨g, 0, none⟩) (tot + 1) (tot + 1) ∧ w.heap.size ≤ g ∧ Hid (wq.rowIs g 3 (tot + 1) (fun j => .int .i64 (evW tot k j : Int))) ∧ Hid (Below w.heap.size w wq)) (fun _ i _ => (2 + 2 * K - intOf i).toNat)
    case atStart => exact ⟨0, g0, Nat.zero_le _, rfl, rfl, g0a, RW.out, HB.out⟩
    case round =>
      clear RW HB hmk
      rename World => wq
      obtain ⟨k, g, hk, rfl, rfl, hgw, hR, hb⟩ := hrel
      have hgl := World.rowIs.lt hR.out
      have hsz := hb.out.size
      by_cases hkl : k < K
      · have e1 : decide (2 * (k : Int) + 2 ≤ (n : Int)) = true := decide_eq_true (by omega)
        have R1 := Lib.hid (World.rowIs_made wq (.int .i64 0) (tot + 1) 3)
        have W1 := Lib.hid (hR.out.alloc (.cells (madeCells #[Value.int .i64 0] (tot + 1)) 3))
        have HB := Lib.hid (show Below w.heap.size w (wq.alloc (.cells (madeCells #[Value.int .i64 0] (tot + 1)) 3)) by have h9 := hb.out; go_grown)
        have hmk := HMK2.out wq
        obtain ⟨gn, hgn⟩ : ∃ g, wq.heap.size = g := ⟨_, rfl⟩
        have GN := Lib.hid hgn
        have hne : g ≠ gn := by omega
        have hne2 : gn ≠ g := by omega
        have gna : w.heap.size ≤ gn := by omega
        clear hR hb
        rw [hgn] at R1
        go_wp2_with fail
        try rw [hgn]
        clear hgn hmk
        go_loopw [9] (fun i wz => ∃ a : Nat, a ≤ tot + 1 ∧ i = .int .i64 (a : Int) ∧ Hid (wz.rowIs gn 3 (tot + 1) (fun j => .int .i64 (upto (evW tot (k + 1)) a j))) ∧ Hid (wz.rowIs g 3 (tot + 1) (fun j => .int .i64 (evW tot k j : Int))) ∧ Hid (Below w.heap.size w wz)) (fun i _ => (tot + 1 - intOf i).toNat)
        case atStart => exact ⟨0, Nat.zero_le _, rfl, rowT_congr (F := fun _ => 0) R1.out (fun j hj => (if_neg (by omega)).symm), W1.out, HB.out⟩
        case round =>
          clear R1 W1 HB
          rename World => wz
          obtain ⟨a, ha, rfl, hR, hW, hb⟩ := hrel
          have hsz2 := hb.out.size
          by_cases hlt2 : a ≤ tot
          · have d3 : decide ((a : Int) ≤ (tot : Int)) = true := decide_eq_true (by omega)
            have d4 : decide (a ≤ tot) = true := decide_eq_true hlt2
            obtain ⟨y0, hy0⟩ : ∃ y, evW tot k (a - 1) = y := ⟨_, rfl⟩
            obtain ⟨y1, hy1⟩ : ∃ y, evW tot k a = y := ⟨_, rfl⟩
            obtain ⟨y2, hy2⟩ : ∃ y, evW tot k (a + 1) = y := ⟨_, rfl⟩
            have b0 : y0 ≤ 4294967296 := by rw [← hy0]; exact evWB tot _ (by omega)
            have b1 : y1 ≤ 4294967296 := by rw [← hy1]; exact evWB tot _ (by omega)
            have b2 : y2 ≤ 4294967296 := by rw [← hy2]; exact evWB tot _ (by omega)
            have hx1 := World.rowIs.cell hW.out (show a < tot + 1 by omega)
            rw [hy1] at hx1
            have hz := World.rowIs.cell hR.out (show a < tot + 1 by omega)
            rw [upto_at] at hz
            have hfz := World.rowIs.frozen hR.out a
            have hgnl := World.rowIs.lt hR.out
            have hgl2 := World.rowIs.lt hW.out
            have a0 : (0 : Int) ≤ (a : Int) := by omega
            have a1 : (a : Int) < (tot : Int) + 1 := by omega
            by_cases ha0 : 0 < a
            · have f1 : decide ((0 : Int) < (a : Int)) = true := decide_eq_true (by omega)
              have f2 : decide (0 < a) = true := decide_eq_true ha0
              have hx0 := World.rowIs.cell hW.out (show a - 1 < tot + 1 by omega)
              rw [hy0] at hx0
              have m0 : IntKind.i64.wrap ((a : Int) - 1) = (a : Int) - 1 := IntWalk.i64_in _ (by omega)
              have m1 : (0 : Int) ≤ (a : Int) - 1 := by omega
              have m2 : (a : Int) - 1 < (tot : Int) + 1 := by omega
              have m3 : ((a : Int) - 1).toNat = a - 1 := by omega
              by_cases hat : a < tot
              · skip
                have h1 : decide ((a : Int) < (tot : Int)) = true := decide_eq_true (by omega)
                have h2 : decide (a < tot) = true := decide_eq_true hat
                have hx2 := World.rowIs.cell hW.out (show a + 1 < tot + 1 by omega)
                rw [hy2] at hx2
                have n0 : IntKind.i64.wrap ((a : Int) + 1) = (a : Int) + 1 := IntWalk.i64_in _ (by omega)
                have n1 : (0 : Int) ≤ (a : Int) + 1 := by omega
                have n2 : (a : Int) + 1 < (tot : Int) + 1 := by omega
                have n3 : ((a : Int) + 1).toNat = a + 1 := by omega
                have w1 : IntKind.i64.wrap ((y0 : Int) + (y1 : Int)) = (y0 : Int) + (y1 : Int) := IntWalk.i64_in _ (by omega)
                have w0 : IntKind.i64.wrap (y0 : Int) = (y0 : Int) := IntWalk.i64_in _ (by omega)
                have w2 : IntKind.i64.wrap ((y0 : Int) + (y1 : Int) + (y2 : Int)) = (y0 : Int) + (y1 : Int) + (y2 : Int) := IntWalk.i64_in _ (by omega)
                have w3 : IntKind.i64.wrap ((y0 : Int) + (y1 : Int) + (y2 : Int) + (y1 : Int)) = (y0 : Int) + (y1 : Int) + (y2 : Int) + (y1 : Int) := IntWalk.i64_in _ (by omega)
                have hval : ((evW tot (k + 1) a : Nat) : Int) = (y0 : Int) + (y1 : Int) + (y2 : Int) + (y1 : Int) := by
                  show ((rowN tot (evW tot k) a : Nat) : Int) = _
                  unfold rowN
                  rw [if_pos ha0, if_pos hat, hy0, hy1, hy2]; try omega
                have NR := Lib.hid (rowT_congr (G := upto (evW tot (k + 1)) (a + 1)) (rowT_set (w := (wz.drew.setCell ⟨gn, a, none⟩ (.int .i64 ((y0 : Int) + (y1 : Int)))).drew) (rowT_set (w := wz.drew) hR.out a ((y0 : Int) + (y1 : Int))) a ((y0 : Int) + (y1 : Int) + (y2 : Int) + (y1 : Int))) (fun j hj => by
                  rw [← upto_put, hval]
                  by_cases e : j = a
                  · rw [if_pos e, if_pos e]
                  · rw [if_neg e, if_neg e, if_neg e]))
                have WR := Lib.hid (World.rowIs.setOther (World.rowIs.drew (World.rowIs.setOther (World.rowIs.drew hW.out) (a := ⟨gn, a, none⟩) hne (.int .i64 ((y0 : Int) + (y1 : Int))))) (a := ⟨gn, a, none⟩) hne (.int .i64 ((y0 : Int) + (y1 : Int) + (y2 : Int) + (y1 : Int))))
                have HB := Lib.hid hb.out
                clear hR hW hb hval hy0 hy1 hy2
                go_wp2_with fail
                go_region
                go_wp2_with fail
                go_region
                go_wp2
                go_roundw
                case rel => exact ⟨a + 1, by omega, by go_num, NR.out, WR.out, by show Below _ _ _; have h9 := HB.out; go_grown⟩
                case measure => simp [intOf]; omega
              · skip
                have h1 : decide ((a : Int) < (tot : Int)) = false := decide_eq_false (by omega)
                have h2 : decide (a < tot) = false := decide_eq_false hat
                have w1 : IntKind.i64.wrap ((y0 : Int) + (y1 : Int)) = (y0 : Int) + (y1 : Int) := IntWalk.i64_in _ (by omega)
                have w0 : IntKind.i64.wrap (y0 : Int) = (y0 : Int) := IntWalk.i64_in _ (by omega)
                have hval : ((evW tot (k + 1) a : Nat) : Int) = (y0 : Int) + (y1 : Int) := by
                  show ((rowN tot (evW tot k) a : Nat) : Int) = _
                  unfold rowN
                  rw [if_pos ha0, if_neg hat, hy0, hy1]; try omega
                have NR := Lib.hid (rowT_congr (G := upto (evW tot (k + 1)) (a + 1)) (rowT_set (w := wz.drew) hR.out a ((y0 : Int) + (y1 : Int))) (fun j hj => by
                  rw [← upto_put, hval]))
                have WR := Lib.hid (World.rowIs.setOther (World.rowIs.drew hW.out) (a := ⟨gn, a, none⟩) hne (.int .i64 ((y0 : Int) + (y1 : Int))))
                have HB := Lib.hid hb.out
                clear hR hW hb hval hy0 hy1 hy2
                go_wp2_with fail
                go_region
                go_wp2
                go_roundw
                case rel => exact ⟨a + 1, by omega, by go_num, NR.out, WR.out, by show Below _ _ _; have h9 := HB.out; go_grown⟩
                case measure => simp [intOf]; omega
            · have f1 : decide ((0 : Int) < (a : Int)) = false := decide_eq_false (by omega)
              have f2 : decide (0 < a) = false := decide_eq_false ha0
              by_cases hat : a < tot
              · skip
                have h1 : decide ((a : Int) < (tot : Int)) = true := decide_eq_true (by omega)
                have h2 : decide (a < tot) = true := decide_eq_true hat
                have hx2 := World.rowIs.cell hW.out (show a + 1 < tot + 1 by omega)
                rw [hy2] at hx2
                have n0 : IntKind.i64.wrap ((a : Int) + 1) = (a : Int) + 1 := IntWalk.i64_in _ (by omega)
                have n1 : (0 : Int) ≤ (a : Int) + 1 := by omega
                have n2 : (a : Int) + 1 < (tot : Int) + 1 := by omega
                have n3 : ((a : Int) + 1).toNat = a + 1 := by omega
                have w2 : IntKind.i64.wrap (y2 : Int) = (y2 : Int) := IntWalk.i64_in _ (by omega)
                have w3 : IntKind.i64.wrap ((y2 : Int) + (y1 : Int)) = (y2 : Int) + (y1 : Int) := IntWalk.i64_in _ (by omega)
                have hval : ((evW tot (k + 1) a : Nat) : Int) = (y2 : Int) + (y1 : Int) := by
                  show ((rowN tot (evW tot k) a : Nat) : Int) = _
                  unfold rowN
                  rw [if_neg ha0, if_pos hat, hy1, hy2]; try omega
                have NR := Lib.hid (rowT_congr (G := upto (evW tot (k + 1)) (a + 1)) (rowT_set (w := wz.drew) hR.out a ((y2 : Int) + (y1 : Int))) (fun j hj => by
                  rw [← upto_put, hval]))
                have WR := Lib.hid (World.rowIs.setOther (World.rowIs.drew hW.out) (a := ⟨gn, a, none⟩) hne (.int .i64 ((y2 : Int) + (y1 : Int))))
                have HB := Lib.hid hb.out
                clear hR hW hb hval hy0 hy1 hy2
                go_wp2_with fail
                go_region
                go_wp2
                go_roundw
                case rel => exact ⟨a + 1, by omega, by go_num, NR.out, WR.out, by show Below _ _ _; have h9 := HB.out; go_grown⟩
                case measure => simp [intOf]; omega
              · skip
                have h1 : decide ((a : Int) < (tot : Int)) = false := decide_eq_false (by omega)
                have h2 : decide (a < tot) = false := decide_eq_false hat
                have hval : ((evW tot (k + 1) a : Nat) : Int) = 0 := by
                  show ((rowN tot (evW tot k) a : Nat) : Int) = _
                  unfold rowN
                  rw [if_neg ha0, if_neg hat]; try omega
                have NR := Lib.hid (rowT_congr (G := upto (evW tot (k + 1)) (a + 1)) (hR.out) (fun j hj => by
                  rw [← upto_put, hval]
                  by_cases e : j = a
                  · rw [if_pos e, e, upto_at]
                  · rw [if_neg e]))
                have WR := Lib.hid (hW.out)
                have HB := Lib.hid hb.out
                clear hR hW hb hval hy0 hy1 hy2
                go_wp2
                go_roundw
                case rel => exact ⟨a + 1, by omega, by go_num, NR.out, WR.out, by show Below _ _ _; have h9 := HB.out; go_grown⟩
                case measure => simp [intOf]; omega
          have d3 : decide ((a : Int) ≤ (tot : Int)) = false := decide_eq_false (by omega)
          have d4 : decide (a ≤ tot) = false := decide_eq_false hlt2
          have RW := Lib.hid (rowT_congr (G := fun j => (evW tot (k + 1) j : Int)) hR.out (fun j hj => upto_all (by omega)))
          have HB := Lib.hid hb.out
          clear hR hW hb
          go_wp2
          go_roundw
          case rel => exact ⟨k + 1, gn, by omega, by go_num, rfl, gna, RW.out, HB.out⟩
          case measure => simp [intOf]; omega
      · obtain rfl : k = K := by omega
        have e1 : decide (2 * (k : Int) + 2 ≤ (n : Int)) = false := decide_eq_false (by omega)
        have RW := Lib.hid hR.out
        have HB := Lib.hid hb.out
        clear hR hb HMK HMK2
        go_wp2
        go_ret
        exact ⟨g, rfl, ⟨hgw, hgl⟩, RW.out, HB.out⟩
set_option maxRecDepth 100000 in
set_option maxHeartbeats 4000000 in
theorem tOdd (tot n K : Nat) (w : World) (ht : tot ≤ 12) (hn : n ≤ 30) (hK : n = 2 * K + 1) :
    Calls Try.prog 66 #[.int .i64 (tot : Int), .int .i64 (n : Int)] w (RowRes w tot (odW tot K)) := by
  have hmk := run_make_row' (P := Try.prog) 53 3 (.int .i64 0) 8 Try.underlying53 intInfoT rfl .i64 .i64 (tot + 1) (by omega) (by omega)
  have hcn : ((tot + 1 : Nat) : Int) = (tot : Int) + 1 := by omega
  rw [hcn] at hmk
  have t0 : IntKind.i64.wrap ((tot : Int) + 1) = (tot : Int) + 1 := IntWalk.i64_in _ (by omega)
  have hKa : n ≤ 2 * K + 1 := Nat.le_of_eq hK
  have hKb : 2 * K + 1 ≤ n := Nat.le_of_eq hK.symm
  clear hK
  have R0 := Lib.hid (World.rowIs_made w (.int .i64 0) (tot + 1) 3)
  have HMK := Lib.hid hmk
  go_enter Try.func66, Try.ntmps66
  go_wp2_with fail
  obtain ⟨g0, hg0⟩ : ∃ g, w.heap.size = g := ⟨_, rfl⟩
  rw [hg0]
  have G0 := Lib.hid hg0
  have g0a : w.heap.size ≤ g0 := Nat.le_of_eq hg0
  have g0b : g0 ≤ w.heap.size := Nat.le_of_eq hg0.symm
  clear hg0 hmk
  go_loopw [6] (fun i wr => ∃ a : Nat, a ≤ tot + 1 ∧ i = .int .i64 (a : Int) ∧ Hid (wr.rowIs g0 3 (tot + 1) (fun j => .int .i64 (upto (odW tot 0) a j))) ∧ Hid (Below w.heap.size w wr)) (fun i _ => (tot + 1 - intOf i).toNat)
  case atStart => exact ⟨0, Nat.zero_le _, rfl, by have h9 := R0.out; rw [G0.out] at h9; exact rowT_congr (F := fun _ => 0) h9 (fun j hj => (if_neg (by omega)).symm), by show Below _ _ _; have hg9 := G0.out; go_grown⟩
  case round =>
    obtain ⟨a, ha, rfl, hR, hb⟩ := hrel
    by_cases hlt : a ≤ tot
    · have d1 : decide ((a : Int) ≤ (tot : Int)) = true := decide_eq_true (by omega)
      have d2 : decide (a ≤ tot) = true := decide_eq_true hlt
      have hfz := World.rowIs.frozen hR.out a
      have hx := World.rowIs.cell hR.out (show a < tot + 1 by omega)
      have a0 : (0 : Int) ≤ (a : Int) := by omega
      have a1 : (a : Int) < (tot : Int) + 1 := by omega
      have NR := Lib.hid (fun q : Nat => rowT_congr (G := upto (odW tot 0) (a + 1)) (rowT_set (w := wr.drewN q) hR.out a (odW tot 0 a : Int)) (fun j hj => upto_put (W := odW tot 0) j))
      have HD := Lib.hid (fun W => tDraws a tot W hlt (by omega) (odW tot 0 a) rfl)
      clear hR
      go_wp2_with fail
      refine (HD.out _).mono ?_
      rintro e w3 ⟨rfl, rfl⟩
      go_wp2
      go_roundw
      case rel => exact ⟨a + 1, by omega, by go_num, by first | exact NR.out 0 | exact NR.out 1, by show Below _ _ _; have h9 := hb.out; go_grown⟩
      case measure => simp [intOf]; omega
    have d1 : decide ((a : Int) ≤ (tot : Int)) = false := decide_eq_false (by omega)
    have d2 : decide (a ≤ tot) = false := decide_eq_false hlt
    have RW := Lib.hid (rowT_congr (G := fun j => (odW tot 0 j : Int)) hR.out (fun j hj => upto_all (by omega)))
    have HB := Lib.hid hb.out
    have HMK2 := Lib.hid HMK.out
    clear R0 hR hb
    have hmk := HMK.out
    go_wp2_with fail
    go_loopw [5, 7] (fun v i wq => ∃ (k g : Nat), k ≤ K ∧ i = .int .i64 (2 * (k : Int) + 3) ∧ v = .slice (some ⟨g, 0, none⟩) (tot + 1) (tot + 1) ∧ w.heap.size ≤ g ∧ Hid (wq.rowIs g 3 (tot + 1) (fun j => .int .i64 (odW tot k j : Int))) ∧ Hid (Below w.heap.size w wq)) (fun _ i _ => (3 + 2 * K - intOf i).toNat)
    case atStart => exact ⟨0, g0, Nat.zero_le _, rfl, rfl, g0a, RW.out, HB.out⟩
    case round =>
      clear RW HB hmk
      rename World => wq
      obtain ⟨k, g, hk, rfl, rfl, hgw, hR, hb⟩ := hrel
      have hgl := World.rowIs.lt hR.out
      have hsz := hb.out.size
      by_cases hkl : k < K
      · have e1 : decide (2 * (k : Int) + 3 ≤ (n : Int)) = true := decide_eq_true (by omega)
        have R1 := Lib.hid (World.rowIs_made wq (.int .i64 0) (tot + 1) 3)
        have W1 := Lib.hid (hR.out.alloc (.cells (madeCells #[Value.int .i64 0] (tot + 1)) 3))
        have HB := Lib.hid (show Below w.heap.size w (wq.alloc (.cells (madeCells #[Value.int .i64 0] (tot + 1)) 3)) by have h9 := hb.out; go_grown)
        have hmk := HMK2.out wq
        obtain ⟨gn, hgn⟩ : ∃ g, wq.heap.size = g := ⟨_, rfl⟩
        have GN := Lib.hid hgn
        have hne : g ≠ gn := by omega
        have hne2 : gn ≠ g := by omega
        have gna : w.heap.size ≤ gn := by omega
        clear hR hb
        rw [hgn] at R1
        go_wp2_with fail
        try rw [hgn]
        clear hgn hmk
        go_loopw [9] (fun i wz => ∃ a : Nat, a ≤ tot + 1 ∧ i = .int .i64 (a : Int) ∧ Hid (wz.rowIs gn 3 (tot + 1) (fun j => .int .i64 (upto (odW tot (k + 1)) a j))) ∧ Hid (wz.rowIs g 3 (tot + 1) (fun j => .int .i64 (odW tot k j : Int))) ∧ Hid (Below w.heap.size w wz)) (fun i _ => (tot + 1 - intOf i).toNat)
        case atStart => exact ⟨0, Nat.zero_le _, rfl, rowT_congr (F := fun _ => 0) R1.out (fun j hj => (if_neg (by omega)).symm), W1.out, HB.out⟩
        case round =>
          clear R1 W1 HB
          rename World => wz
          obtain ⟨a, ha, rfl, hR, hW, hb⟩ := hrel
          have hsz2 := hb.out.size
          by_cases hlt2 : a ≤ tot
          · have d3 : decide ((a : Int) ≤ (tot : Int)) = true := decide_eq_true (by omega)
            have d4 : decide (a ≤ tot) = true := decide_eq_true hlt2
            obtain ⟨y0, hy0⟩ : ∃ y, odW tot k (a - 1) = y := ⟨_, rfl⟩
            obtain ⟨y1, hy1⟩ : ∃ y, odW tot k a = y := ⟨_, rfl⟩
            obtain ⟨y2, hy2⟩ : ∃ y, odW tot k (a + 1) = y := ⟨_, rfl⟩
            have b0 : y0 ≤ 4294967296 := by rw [← hy0]; exact odWB tot _ (by omega)
            have b1 : y1 ≤ 4294967296 := by rw [← hy1]; exact odWB tot _ (by omega)
            have b2 : y2 ≤ 4294967296 := by rw [← hy2]; exact odWB tot _ (by omega)
            have hx1 := World.rowIs.cell hW.out (show a < tot + 1 by omega)
            rw [hy1] at hx1
            have hz := World.rowIs.cell hR.out (show a < tot + 1 by omega)
            rw [upto_at] at hz
            have hfz := World.rowIs.frozen hR.out a
            have hgnl := World.rowIs.lt hR.out
            have hgl2 := World.rowIs.lt hW.out
            have a0 : (0 : Int) ≤ (a : Int) := by omega
            have a1 : (a : Int) < (tot : Int) + 1 := by omega
            by_cases ha0 : 0 < a
            · have f1 : decide ((0 : Int) < (a : Int)) = true := decide_eq_true (by omega)
              have f2 : decide (0 < a) = true := decide_eq_true ha0
              have hx0 := World.rowIs.cell hW.out (show a - 1 < tot + 1 by omega)
              rw [hy0] at hx0
              have m0 : IntKind.i64.wrap ((a : Int) - 1) = (a : Int) - 1 := IntWalk.i64_in _ (by omega)
              have m1 : (0 : Int) ≤ (a : Int) - 1 := by omega
              have m2 : (a : Int) - 1 < (tot : Int) + 1 := by omega
              have m3 : ((a : Int) - 1).toNat = a - 1 := by omega
              by_cases hat : a < tot
              · skip
                have h1 : decide ((a : Int) < (tot : Int)) = true := decide_eq_true (by omega)
                have h2 : decide (a < tot) = true := decide_eq_true hat
                have hx2 := World.rowIs.cell hW.out (show a + 1 < tot + 1 by omega)
                rw [hy2] at hx2
                have n0 : IntKind.i64.wrap ((a : Int) + 1) = (a : Int) + 1 := IntWalk.i64_in _ (by omega)
                have n1 : (0 : Int) ≤ (a : Int) + 1 := by omega
                have n2 : (a : Int) + 1 < (tot : Int) + 1 := by omega
                have n3 : ((a : Int) + 1).toNat = a + 1 := by omega
                have w1 : IntKind.i64.wrap ((y0 : Int) + (y1 : Int)) = (y0 : Int) + (y1 : Int) := IntWalk.i64_in _ (by omega)
                have w0 : IntKind.i64.wrap (y0 : Int) = (y0 : Int) := IntWalk.i64_in _ (by omega)
                have w2 : IntKind.i64.wrap ((y0 : Int) + (y1 : Int) + (y2 : Int)) = (y0 : Int) + (y1 : Int) + (y2 : Int) := IntWalk.i64_in _ (by omega)
                have w3 : IntKind.i64.wrap ((y0 : Int) + (y1 : Int) + (y2 : Int) + (y1 : Int)) = (y0 : Int) + (y1 : Int) + (y2 : Int) + (y1 : Int) := IntWalk.i64_in _ (by omega)
                have hval : ((odW tot (k + 1) a : Nat) : Int) = (y0 : Int) + (y1 : Int) + (y2 : Int) + (y1 : Int) := by
                  show ((rowN tot (odW tot k) a : Nat) : Int) = _
                  unfold rowN
                  rw [if_pos ha0, if_pos hat, hy0, hy1, hy2]; try omega
                have NR := Lib.hid (rowT_congr (G := upto (odW tot (k + 1)) (a + 1)) (rowT_set (w := (wz.drew.setCell ⟨gn, a, none⟩ (.int .i64 ((y0 : Int) + (y1 : Int)))).drew) (rowT_set (w := wz.drew) hR.out a ((y0 : Int) + (y1 : Int))) a ((y0 : Int) + (y1 : Int) + (y2 : Int) + (y1 : Int))) (fun j hj => by
                  rw [← upto_put, hval]
                  by_cases e : j = a
                  · rw [if_pos e, if_pos e]
                  · rw [if_neg e, if_neg e, if_neg e]))
                have WR := Lib.hid (World.rowIs.setOther (World.rowIs.drew (World.rowIs.setOther (World.rowIs.drew hW.out) (a := ⟨gn, a, none⟩) hne (.int .i64 ((y0 : Int) + (y1 : Int))))) (a := ⟨gn, a, none⟩) hne (.int .i64 ((y0 : Int) + (y1 : Int) + (y2 : Int) + (y1 : Int))))
                have HB := Lib.hid hb.out
                clear hR hW hb hval hy0 hy1 hy2
                go_wp2_with fail
                go_region
                go_wp2_with fail
                go_region
                go_wp2
                go_roundw
                case rel => exact ⟨a + 1, by omega, by go_num, NR.out, WR.out, by show Below _ _ _; have h9 := HB.out; go_grown⟩
                case measure => simp [intOf]; omega
              · skip
                have h1 : decide ((a : Int) < (tot : Int)) = false := decide_eq_false (by omega)
                have h2 : decide (a < tot) = false := decide_eq_false hat
                have w1 : IntKind.i64.wrap ((y0 : Int) + (y1 : Int)) = (y0 : Int) + (y1 : Int) := IntWalk.i64_in _ (by omega)
                have w0 : IntKind.i64.wrap (y0 : Int) = (y0 : Int) := IntWalk.i64_in _ (by omega)
                have hval : ((odW tot (k + 1) a : Nat) : Int) = (y0 : Int) + (y1 : Int) := by
                  show ((rowN tot (odW tot k) a : Nat) : Int) = _
                  unfold rowN
                  rw [if_pos ha0, if_neg hat, hy0, hy1]; try omega
                have NR := Lib.hid (rowT_congr (G := upto (odW tot (k + 1)) (a + 1)) (rowT_set (w := wz.drew) hR.out a ((y0 : Int) + (y1 : Int))) (fun j hj => by
                  rw [← upto_put, hval]))
                have WR := Lib.hid (World.rowIs.setOther (World.rowIs.drew hW.out) (a := ⟨gn, a, none⟩) hne (.int .i64 ((y0 : Int) + (y1 : Int))))
                have HB := Lib.hid hb.out
                clear hR hW hb hval hy0 hy1 hy2
                go_wp2_with fail
                go_region
                go_wp2
                go_roundw
                case rel => exact ⟨a + 1, by omega, by go_num, NR.out, WR.out, by show Below _ _ _; have h9 := HB.out; go_grown⟩
                case measure => simp [intOf]; omega
            · have f1 : decide ((0 : Int) < (a : Int)) = false := decide_eq_false (by omega)
              have f2 : decide (0 < a) = false := decide_eq_false ha0
              by_cases hat : a < tot
              · skip
                have h1 : decide ((a : Int) < (tot : Int)) = true := decide_eq_true (by omega)
                have h2 : decide (a < tot) = true := decide_eq_true hat
                have hx2 := World.rowIs.cell hW.out (show a + 1 < tot + 1 by omega)
                rw [hy2] at hx2
                have n0 : IntKind.i64.wrap ((a : Int) + 1) = (a : Int) + 1 := IntWalk.i64_in _ (by omega)
                have n1 : (0 : Int) ≤ (a : Int) + 1 := by omega
                have n2 : (a : Int) + 1 < (tot : Int) + 1 := by omega
                have n3 : ((a : Int) + 1).toNat = a + 1 := by omega
                have w2 : IntKind.i64.wrap (y2 : Int) = (y2 : Int) := IntWalk.i64_in _ (by omega)
                have w3 : IntKind.i64.wrap ((y2 : Int) + (y1 : Int)) = (y2 : Int) + (y1 : Int) := IntWalk.i64_in _ (by omega)
                have hval : ((odW tot (k + 1) a : Nat) : Int) = (y2 : Int) + (y1 : Int) := by
                  show ((rowN tot (odW tot k) a : Nat) : Int) = _
                  unfold rowN
                  rw [if_neg ha0, if_pos hat, hy1, hy2]; try omega
                have NR := Lib.hid (rowT_congr (G := upto (odW tot (k + 1)) (a + 1)) (rowT_set (w := wz.drew) hR.out a ((y2 : Int) + (y1 : Int))) (fun j hj => by
                  rw [← upto_put, hval]))
                have WR := Lib.hid (World.rowIs.setOther (World.rowIs.drew hW.out) (a := ⟨gn, a, none⟩) hne (.int .i64 ((y2 : Int) + (y1 : Int))))
                have HB := Lib.hid hb.out
                clear hR hW hb hval hy0 hy1 hy2
                go_wp2_with fail
                go_region
                go_wp2
                go_roundw
                case rel => exact ⟨a + 1, by omega, by go_num, NR.out, WR.out, by show Below _ _ _; have h9 := HB.out; go_grown⟩
                case measure => simp [intOf]; omega
              · skip
                have h1 : decide ((a : Int) < (tot : Int)) = false := decide_eq_false (by omega)
                have h2 : decide (a < tot) = false := decide_eq_false hat
                have hval : ((odW tot (k + 1) a : Nat) : Int) = 0 := by
                  show ((rowN tot (odW tot k) a : Nat) : Int) = _
                  unfold rowN
                  rw [if_neg ha0, if_neg hat]; try omega
                have NR := Lib.hid (rowT_congr (G := upto (odW tot (k + 1)) (a + 1)) (hR.out) (fun j hj => by
                  rw [← upto_put, hval]
                  by_cases e : j = a
                  · rw [if_pos e, e, upto_at]
                  · rw [if_neg e]))
                have WR := Lib.hid (hW.out)
                have HB := Lib.hid hb.out
                clear hR hW hb hval hy0 hy1 hy2
                go_wp2
                go_roundw
                case rel => exact ⟨a + 1, by omega, by go_num, NR.out, WR.out, by show Below _ _ _; have h9 := HB.out; go_grown⟩
                case measure => simp [intOf]; omega
          have d3 : decide ((a : Int) ≤ (tot : Int)) = false := decide_eq_false (by omega)
          have d4 : decide (a ≤ tot) = false := decide_eq_false hlt2
          have RW := Lib.hid (rowT_congr (G := fun j => (odW tot (k + 1) j : Int)) hR.out (fun j hj => upto_all (by omega)))
          have HB := Lib.hid hb.out
          clear hR hW hb
          go_wp2
          go_roundw
          case rel => exact ⟨k + 1, gn, by omega, by go_num, rfl, gna, RW.out, HB.out⟩
          case measure => simp [intOf]; omega
      · obtain rfl : k = K := by omega
        have e1 : decide (2 * (k : Int) + 3 ≤ (n : Int)) = false := decide_eq_false (by omega)
        have RW := Lib.hid hR.out
        have HB := Lib.hid hb.out
        clear hR hb HMK HMK2
        go_wp2
        go_ret
        exact ⟨g, rfl, ⟨hgw, hgl⟩, RW.out, HB.out⟩
end Go.Proofs.Ytejggpejmooegaa
