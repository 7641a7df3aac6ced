/-
  Contract of the program's PathsFree where it says no; both together.
-/
import Derived.Test.YtjppkcfbhhjniaaPathFi
namespace Go.Proofs.Ytjppkcfbhhjniaa
open Go.RowKit
set_option linter.unusedVariables false

set_option maxHeartbeats 1000000 in
theorem iFree_no (A : Option Addr) (m c : Nat) (D : Nat → PD) (n k frm run : Int) (w : World) (h : PsRn w w.heap.size A m D) (hm : m ≤ 1099511627776) (hv : ¬ freeOK n D m k frm run) :
    Calls Try.prog 39 #[.int .i64 n, .slice A m c, .int .i64 k, .int .i64 frm, .int .i64 run] w fun e w' => e = .returned (.tuple #[.int .i64 0, .bool false]) ∧ Below w.heap.size w w' := by
  have h3 := ((h.top (.cells #[.slice A m c] 23)).top (.cells #[.int .i64 k] 3)).top (.cells #[.int .i64 run] 3)
  have hZ : Bx (((w.alloc (.cells #[.slice A m c] 23)).alloc (.cells #[.int .i64 k] 3)).alloc (.cells #[.int .i64 run] 3)) (w.heap.size + 1 + 1) [.int .i64 run] := by
    have := Bx.new ((w.alloc (.cells #[.slice A m c] 23)).alloc (.cells #[.int .i64 k] 3)) [.int .i64 run] 3; simpa using this
  cases hpv : hasS n D m k
  · have VV := Lib.hid hpv
    clear hv hpv h
    go_enter Try.func39, Try.ntmps39
    go_wp2_with fail
    refine (iHasS_is false A m c D n k _ VV.out h3 (by omega)).mono ?_
    rintro e w1 ⟨rfl, hb⟩
    have H1 := Lib.hid (hZ.call hb)
    have c2 := H1.out.cell (i := 0) (by simp)
    simp only [List.getElem_cons_zero] at c2
    have hb : Below w.heap.size w w1 := bl (show Below w.heap.size w (((w.alloc (.cells #[.slice A m c] 23)).alloc (.cells #[.int .i64 k] 3)).alloc (.cells #[.int .i64 run] 3)) by go_grown) (Nat.le_refl _) hb
    clear hZ h3
    go_wp2
    go_ret2
    exact ⟨rfl, hb⟩
  have VV := Lib.hid hpv
  by_cases hr1 : 1 ≤ run
  · have d1 : decide (run < 1) = false := decide_eq_false (by omega)
    by_cases hr2 : run ≤ 100
    · have d2 : decide (100 < run) = false := decide_eq_false (by omega)
      have d3 : decide (frm < 0) = true := decide_eq_true (Classical.byContradiction fun x => hv ⟨hpv, hr1, hr2, by omega⟩)
      clear hv hpv h
      go_enter Try.func39, Try.ntmps39
      go_wp2_with fail
      refine (iHasS_is true A m c D n k _ VV.out h3 (by omega)).mono ?_
      rintro e w1 ⟨rfl, hb⟩
      have H1 := Lib.hid (hZ.call hb)
      have c2 := H1.out.cell (i := 0) (by simp)
      simp only [List.getElem_cons_zero] at c2
      have hb : Below w.heap.size w w1 := bl (show Below w.heap.size w (((w.alloc (.cells #[.slice A m c] 23)).alloc (.cells #[.int .i64 k] 3)).alloc (.cells #[.int .i64 run] 3)) by go_grown) (Nat.le_refl _) hb
      clear hZ h3
      go_wp2
      go_ret2
      exact ⟨rfl, hb⟩
    · have d2 : decide (100 < run) = true := decide_eq_true (by omega)
      clear hv hpv h
      go_enter Try.func39, Try.ntmps39
      go_wp2_with fail
      refine (iHasS_is true A m c D n k _ VV.out h3 (by omega)).mono ?_
      rintro e w1 ⟨rfl, hb⟩
      have H1 := Lib.hid (hZ.call hb)
      have c2 := H1.out.cell (i := 0) (by simp)
      simp only [List.getElem_cons_zero] at c2
      have hb : Below w.heap.size w w1 := bl (show Below w.heap.size w (((w.alloc (.cells #[.slice A m c] 23)).alloc (.cells #[.int .i64 k] 3)).alloc (.cells #[.int .i64 run] 3)) by go_grown) (Nat.le_refl _) hb
      clear hZ h3
      go_wp2
      go_ret2
      exact ⟨rfl, hb⟩
  · have d1 : decide (run < 1) = true := decide_eq_true (by omega)
    clear hv hpv h
    go_enter Try.func39, Try.ntmps39
    go_wp2_with fail
    refine (iHasS_is true A m c D n k _ VV.out h3 (by omega)).mono ?_
    rintro e w1 ⟨rfl, hb⟩
    have H1 := Lib.hid (hZ.call hb)
    have c2 := H1.out.cell (i := 0) (by simp)
    simp only [List.getElem_cons_zero] at c2
    have hb : Below w.heap.size w w1 := bl (show Below w.heap.size w (((w.alloc (.cells #[.slice A m c] 23)).alloc (.cells #[.int .i64 k] 3)).alloc (.cells #[.int .i64 run] 3)) by go_grown) (Nat.le_refl _) hb
    clear hZ h3
    go_wp2
    go_ret2
    exact ⟨rfl, hb⟩
end Go.Proofs.Ytjppkcfbhhjniaa
