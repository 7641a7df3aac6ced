/-
  Contract of the program's PathsFree where it says no; both together.
-/
import Derived.Test.YthlegnghojbcaaaPathFi
namespace Go.Proofs.Ythlegnghojbcaaa
open Go.RowKit
set_option linter.unusedVariables false

set_option maxHeartbeats 1000000 in
theorem iFree_no (A : Option Addr) (m c : Nat) (D : Nat → PD) (n k frm run : Int) (w : World) (h : PsRn w w.heap.size A m D) (hm : m ≤ 1099511627776) (hv : ¬ freeOK n D m k frm run) :
    Calls Try.prog 29 #[.int .i64 n, .slice A m c, .int .i64 k, .int .i64 frm, .int .i64 run] w fun e w' => e = .returned (.tuple #[.int .i64 0, .bool false]) ∧ Below w.heap.size w w' := by
  have h3 := ((h.top (.cells #[.slice A m c] 36)).top (.cells #[.int .i64 k] 3)).top (.cells #[.int .i64 run] 3)
  have hZ : Bx (((w.alloc (.cells #[.slice A m c] 36)).alloc (.cells #[.int .i64 k] 3)).alloc (.cells #[.int .i64 run] 3)) (w.heap.size + 1 + 1) [.int .i64 run] := by
    have := Bx.new ((w.alloc (.cells #[.slice A m c] 36)).alloc (.cells #[.int .i64 k] 3)) [.int .i64 run] 3; simpa using this
  cases hpv : hasS n D m k
  · have VV := Lib.hid hpv
    clear hv hpv h
    go_enter Try.func29, Try.ntmps29
    go_wp2_with fail
    refine (iHasS_is false A m c D n k _ VV.out h3 (by omega)).mono ?_
    rintro e w1 ⟨rfl, hb⟩
    have H1 := Lib.hid (hZ.call hb)
    have c2 := H1.out.cell (i := 0) (by simp)
    simp only [List.getElem_cons_zero] at c2
    have hb : Below w.heap.size w w1 := bl (show Below w.heap.size w (((w.alloc (.cells #[.slice A m c] 36)).alloc (.cells #[.int .i64 k] 3)).alloc (.cells #[.int .i64 run] 3)) by go_grown) (Nat.le_refl _) hb
    clear hZ h3
    go_wp2
    go_ret2
    exact ⟨rfl, hb⟩
  have VV := Lib.hid hpv
  by_cases hr1 : 1 ≤ run
  · have d1 : decide (run < 1) = false := decide_eq_false (by omega)
    by_cases hr2 : run ≤ 100
    · have d2 : decide (100 < run) = false := decide_eq_false (by omega)
      have d3 : decide (frm < 0) = true := decide_eq_true (Classical.byContradiction fun x => hv ⟨hpv, hr1, hr2, by omega⟩)
      clear hv hpv h
      go_enter Try.func29, Try.ntmps29
      go_wp2_with fail
      refine (iHasS_is true A m c D n k _ VV.out h3 (by omega)).mono ?_
      rintro e w1 ⟨rfl, hb⟩
      have H1 := Lib.hid (hZ.call hb)
      have c2 := H1.out.cell (i := 0) (by simp)
      simp only [List.getElem_cons_zero] at c2
      have hb : Below w.heap.size w w1 := bl (show Below w.heap.size w (((w.alloc (.cells #[.slice A m c] 36)).alloc (.cells #[.int .i64 k] 3)).alloc (.cells #[.int .i64 run] 3)) by go_grown) (Nat.le_refl _) hb
      clear hZ h3
      go_wp2
      go_ret2
      exact ⟨rfl, hb⟩
    · have d2 : decide (100 < run) = true := decide_eq_true (by omega)
      clear hv hpv h
      go_enter Try.func29, Try.ntmps29
      go_wp2_with fail
      refine (iHasS_is true A m c D n k _ VV.out h3 (by omega)).mono ?_
      rintro e w1 ⟨rfl, hb⟩
      have H1 := Lib.hid (hZ.call hb)
      have c2 := H1.out.cell (i := 0) (by simp)
      simp only [List.getElem_cons_zero] at c2
      have hb : Below w.heap.size w w1 := bl (show Below w.heap.size w (((w.alloc (.cells #[.slice A m c] 36)).alloc (.cells #[.int .i64 k] 3)).alloc (.cells #[.int .i64 run] 3)) by go_grown) (Nat.le_refl _) hb
      clear hZ h3
      go_wp2
      go_ret2
      exact ⟨rfl, hb⟩
  · have d1 : decide (run < 1) = true := decide_eq_true (by omega)
    clear hv hpv h
    go_enter Try.func29, Try.ntmps29
    go_wp2_with fail
    refine (iHasS_is true A m c D n k _ VV.out h3 (by omega)).mono ?_
    rintro e w1 ⟨rfl, hb⟩
    have H1 := Lib.hid (hZ.call hb)
    have c2 := H1.out.cell (i := 0) (by simp)
    simp only [List.getElem_cons_zero] at c2
    have hb : Below w.heap.size w w1 := bl (show Below w.heap.size w (((w.alloc (.cells #[.slice A m c] 36)).alloc (.cells #[.int .i64 k] 3)).alloc (.cells #[.int .i64 run] 3)) by go_grown) (Nat.le_refl _) hb
    clear hZ h3
    go_wp2
    go_ret2
    exact ⟨rfl, hb⟩
theorem d_FnExactPathsFree (n k frm run : Int) (m : Nat) (D : Nat → PD) (hm : m ≤ 1048576) : ∃ (v : Int) (ok : Bool),
    (∀ (W : World) (E : Option Addr) (d : Nat), PsRn W W.heap.size E m D → Calls Try.prog 28 #[.int .i64 n, .slice E m d, .int .i64 k, .int .i64 frm, .int .i64 run] W fun e w' => e = .returned (.tuple #[.int .i64 v, .bool ok]) ∧ Below W.heap.size W w') ∧
    (∀ (W : World) (E : Option Addr) (d : Nat), PsRn W W.heap.size E m D → Calls Try.prog 29 #[.int .i64 n, .slice E m d, .int .i64 k, .int .i64 frm, .int .i64 run] W fun e w' => e = .returned (.tuple #[.int .i64 v, .bool ok]) ∧ Below W.heap.size W w') := by
  rcases Classical.em (freeOK n D m k frm run) with hv | hv
  · obtain ⟨j, rfl⟩ := Int.eq_ofNat_of_zero_le (hasS_iff.1 hv.1).2.1
    obtain ⟨v, ok, hF⟩ := isFree_ex (fun i => (D i).f1 j) (fun i => (D i).f2 j) m frm run
    exact ⟨v, ok, fun W E d h => sFree_yes E m d D n j frm run W h hv v ok hF, fun W E d h => iFree_yes E m d D n j frm run W h hv v ok hF⟩
  · exact ⟨0, false, fun W E d h => sFree_no E m d D n k frm run W h (by omega) hv, fun W E d h => iFree_no E m d D n k frm run W h (by omega) hv⟩
end Go.Proofs.Ythlegnghojbcaaa
