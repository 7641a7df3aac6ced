/-
  Contract of the program's PathsOrder.
-/
import Derived.Test.YtjppkcfbhhjniaaPathSs
namespace Go.Proofs.Ytjppkcfbhhjniaa
open Go.RowKit Go.Deep
set_option linter.unusedVariables false

theorem idx_step (m k : Nat) (j : Nat) (h : k < m) : (if j = k then Value.int .i64 (k : Int) else .int .i64 (if j < k then (j : Int) else 0)) = .int .i64 (if j < k + 1 then (j : Int) else 0) := by
  by_cases e : j = k
  · subst e; rw [if_pos rfl, if_pos (by omega)]
  · rw [if_neg e]
    by_cases e2 : j < k
    · rw [if_pos e2, if_pos (by omega)]
    · rw [if_neg e2, if_neg (by omega)]
set_option maxHeartbeats 2000000 in
theorem iOrd_yes (A : Option Addr) (m c : Nat) (D : Nat → PD) (n : Int) (k : Nat) (w : World) (h : PsRn w w.heap.size A m D) (hv : hasS n D m k = true) :
    Calls Try.prog 17 #[.int .i64 n, .slice A m c, .int .i64 (k : Int)] w (IdxRes w (ordN (fun i => (D i).f1 k) m) true) := by
  have hm8 : m ≤ 8 := (pathsV_iff.1 (hasS_iff.1 hv).1).2.2.1
  have VV := Lib.hid hv
  have hmk := run_make_row' (P := Try.prog) 27 3 (.int .i64 0) 8 Try.underlying27 intInfo rfl .i64 .i64 m (by omega) (by omega)
  have hmf : ∀ (fn : Fn) (first cap : Array Value) (w : World), (Instr.makeFunc fn first cap).run Try.prog w = .ok (.func fn first cap) w := fun _ _ _ _ => rfl
  have hor : OrB w.heap.size A m c D k w.heap.size (w.heap.size + 1) ((w.alloc (.cells #[.slice A m c] 23)).alloc (.cells #[.int .i64 (k : Int)] 3)) :=
    ⟨(h.alloc (Nat.le_refl _) _).alloc (by simp) _, (Bx.new w [.slice A m c] _).alloc _, by have := Bx.new (w.alloc (.cells #[.slice A m c] 23)) [.int .i64 (k : Int)] 3; simpa using this⟩
  have h3 := (h.top (.cells #[.slice A m c] 23)).top (.cells #[.int .i64 (k : Int)] 3)
  clear hv h
  go_enter Try.func17, Try.ntmps17
  go_wp2_with fail
  refine (iHasS_is true A m c D n k _ VV.out h3 (by omega)).mono ?_
  rintro e w1 ⟨rfl, hbq⟩
  have H1 := Lib.hid (hor.call (by simp; omega) hbq)
  have hb : Below w.heap.size w w1 := bl (show Below w.heap.size w ((w.alloc (.cells #[.slice A m c] 23)).alloc (.cells #[.int .i64 (k : Int)] 3)) by go_grown) (Nat.le_refl _) hbq
  clear hor h3 hbq
  obtain ⟨c0, c1⟩ := H1.out.cells
  have hlx := H1.out.2.1.lt
  have hly := H1.out.2.2.lt
  go_wp2_with fail
  have hrow := World.rowIs_made w1 (.int .i64 0) m 3
  go_loopw [21] (fun i wr => ∃ j : Nat, j ≤ m ∧ i = .int .i64 j ∧ wr.rowIs w1.heap.size 3 m (fun t => .int .i64 (if t < j then (t : Int) else 0)) ∧ Below w1.heap.size w1 wr) (fun i _ => m - (intOf i).toNat)
  case atStart => exact ⟨0, Nat.zero_le _, rfl, hrow.congr (fun j _ => by simp), by go_grown⟩
  case round =>
    clear hmk hrow c0 c1
    obtain ⟨j, hj, rfl, hr, hbr⟩ := hrel
    by_cases hlt : j < m
    · have hnew := hr.cell hlt
      have hfz := hr.frozen j
      have hst := Lib.hid (hr.set (i := j) (v := .int .i64 (j : Int)))
      have j0 : (0 : Int) ≤ (j : Int) := by omega
      have j1 : (j : Int) < (m : Int) := by omega
      go_wp2
      go_roundw
      case rel => exact ⟨j + 1, by omega, by go_num, hst.out.congr (fun t _ => idx_step m j t hlt), by go_grown⟩
      case measure => simp [intOf]; omega
    · obtain rfl : j = m := by omega
      have hsr := hbr.size
      have hs1 := hb.size
      have hS : SrR wr w1.heap.size 3 j w.heap.size A c D k w.heap.size (w.heap.size + 1) (fun t => t) wr := ⟨H1.out.call hs1 hbr, hr.congr (fun t ht => by simp [ht]), gb_refl _ _⟩
      have hlr := hr.lt
      have HS := Lib.hid hS
      clear hS hr
      go_wp2_with fail
      refine (iSort w.heap.size A j c D n k w.heap.size (w.heap.size + 1) w1.heap.size j wr VV.out hs1 (by omega) (by omega) (Nat.le_refl _) HS.out).mono ?_
      rintro e w2 ⟨rfl, hO, hrow, hg⟩
      have hs2 := hg.size
      have hb2 : Below w.heap.size w w2 := (bl hb (Nat.le_refl _) hbr).grown hg (by omega) (fun k e => by injection e with e; omega)
      have hOw := Ow.of_row (hrow.congr (g := fun t => .int .i64 (((ordN (fun i => (D i).f1 k) j).getD t 0 : Nat) : Int)) (fun t ht => by simp only [srt, if_pos ht, ordAt])) (Nat.le_refl _)
      have HO := Lib.hid hOw
      clear hO hrow hg hOw
      go_wp2
      go_ret2
      refine ⟨w1.heap.size, j, by rw [ord_len]; rfl, ⟨by omega, by omega⟩, ?_, hb2⟩
      rw [ord_len]; exact HO.out
set_option maxHeartbeats 1000000 in
theorem iOrd_no (A : Option Addr) (m c : Nat) (D : Nat → PD) (n k : Int) (w : World) (h : PsRn w w.heap.size A m D) (hm : m ≤ 1099511627776) (hv : hasS n D m k = false) :
    Calls Try.prog 17 #[.int .i64 n, .slice A m c, .int .i64 k] w (IdxRes w [] false) := by
  have V := Lib.hid hv
  have h3 := (h.top (.cells #[.slice A m c] 23)).top (.cells #[.int .i64 k] 3)
  clear hv h
  go_enter Try.func17, Try.ntmps17
  go_wp2_with fail
  refine (iHasS_is false A m c D n k _ V.out h3 hm).mono ?_
  rintro e w1 ⟨rfl, hbq⟩
  have hb : Below w.heap.size w w1 := bl (show Below w.heap.size w ((w.alloc (.cells #[.slice A m c] 23)).alloc (.cells #[.int .i64 k] 3)) by go_grown) (Nat.le_refl _) hbq
  have hs := hb.size
  clear h3 hbq
  go_wp2
  go_ret2
  exact ⟨w1.heap.size, 0, rfl, ⟨hs, by simp⟩, Ow.nil _ _ _ _, by go_grown⟩
end Go.Proofs.Ytjppkcfbhhjniaa
