/-
  Contracts of PathsFit where it says no.
-/
import Derived.Test.YtjppkcfbhhjniaaPathFn
namespace Go.Proofs.Ytjppkcfbhhjniaa
open Go.RowKit
set_option linter.unusedVariables false

def FitZ (w : World) (frm : Int) (t i : Value) (wr : World) : Prop := i = .int .i64 0 ∧ t = .int .i64 frm ∧ Bx wr w.heap.size [.slice none 0 0, .slice none 0 0] ∧ Below w.heap.size w wr
set_option maxHeartbeats 2000000 in
theorem sFit_no (A : Option Addr) (m c : Nat) (D : Nat → PD) (R : Option Addr) (r d : Nat) (f : Nat → Int) (n frm : Int) (w : World) (h : PsRn w w.heap.size A m D) (hR : Rn w w.heap.size R r f) (hm : m ≤ 1099511627776) (hr : r ≤ 1099511627776) (hv : ¬ (pathsV n D m = true ∧ runsV n r f ∧ 0 ≤ frm)) :
    Calls Try.prog 43 #[.int .i64 n, .slice A m c, .int .i64 frm, .slice R r d] w (NoPath w) := by
  have P0 := Lib.hid h
  have R0 := Lib.hid hR
  have P1 := Lib.hid (h.top (.cells #[.slice none 0 0, .slice none 0 0] 31))
  have R1 := Lib.hid (hR.top (.cells #[.slice none 0 0, .slice none 0 0] 31))
  have hx0 := Bx.new w [.slice none 0 0, .slice none 0 0] 31
  have hbz : Below w.heap.size w (w.alloc (.cells #[.slice none 0 0, .slice none 0 0] 31)) := by go_grown
  clear h hR
  cases hpv : pathsV n D m
  · have PV := Lib.hid hpv
    clear hv hpv
    go_enter Try.func43, Try.ntmps43
    go_wp2_with fail
    refine (sPathsV_is false A m c D n _ PV.out P1.out (by omega)).mono ?_
    rintro e w1 ⟨rfl, hn1⟩
    have hb : Below w.heap.size w w1 := bl hbz (Nat.le_refl _) hn1
    have hx0 := hx0.call hn1
    clear hn1 P1 R1 hbz
    have y0 := hx0.cell (i := 0) (by simp)
    have y1 := hx0.cell (i := 1) (by simp)
    have y2 := hx0.frz 0
    have y3 := hx0.frz 1
    have hlx := hx0.lt
    simp only [List.getElem_cons_zero, List.getElem_cons_succ] at y0 y1
    go_wp2
    refine bodyPost_ret (by simp [results, Try.results43, go_sem, *]; rfl) rfl ?_
    exact ⟨rfl, by go_grown⟩
  have PV := Lib.hid hpv
  rcases Classical.em (runsV n r f) with hrv | hrv
  · have hf : frm < 0 := Classical.byContradiction fun x => hv ⟨hpv, hrv, by omega⟩
    obtain rfl : (r : Int) = n := hrv.2.1
    have hn := hrv.1
    have RV := Lib.hid (show true = decide (runsV r r f) from (decide_eq_true hrv).symm)
    have NF := Lib.hid (show ¬ freeOK r D m 0 frm (f 0) from fun x => absurd x.2.2.2 (by omega))
    have hm8 : m ≤ 8 := (pathsV_iff.1 hpv).2.2.1
    clear hv hpv hrv
    go_enter Try.func43, Try.ntmps43
    go_wp2_with fail
    refine (sPathsV_is true A m c D r _ PV.out P1.out (by omega)).mono ?_
    rintro e w1 ⟨rfl, hn1⟩
    have hb : Below w.heap.size w w1 := bl hbz (Nat.le_refl _) hn1
    have hx0 := hx0.call hn1
    have R2 := Lib.hid (R1.out.topb hn1)
    clear hn1 P1 R1 hbz
    go_wp2_with fail
    refine (sRuns true R r d f r _ RV.out R2.out (by omega)).mono ?_
    rintro e w2 ⟨rfl, hn2⟩
    have hx0 := hx0.call hn2
    have hb := bl hb (Nat.le_refl _) hn2
    have hz1 : w.heap.size + 1 ≤ w2.heap.size := hx0.lt
    clear hn2 R2
    go_wp2_with fail
    go_loopw [2, 11] (fun t i wr => FitZ w frm t i wr) (fun _ i _ => r - (intOf i).toNat)
    case atStart => exact ⟨rfl, rfl, ((hx0.alloc _).alloc _).alloc _, by go_grown⟩
    case round =>
      clear hx0 hb
      obtain ⟨rfl, rfl, hx0, hb⟩ := hrel
      obtain ⟨dr, dro, rfl, hdr, hcr⟩ := (R0.out.below hb) (by omega)
      have zr := hcr 0 (by omega)
      have hs := hb.size
      have j1 : (0 : Int) < (r : Int) := by omega
      have j2 : 0 < r := by omega
      have PP := Lib.hid ((P0.out.below hb).up hs)
      rw [Nat.add_zero] at zr
      clear hcr
      go_wp2_with fail
      refine (sFree_no A m c D r 0 frm (f 0) _ PP.out (by omega) NF.out).mono ?_
      rintro e w3 ⟨rfl, hn3⟩
      have hx0 := hx0.call hn3
      have hb := bl hb (Nat.le_refl _) hn3
      clear hn3 zr PP hs
      have y0 := hx0.cell (i := 0) (by simp)
      have y1 := hx0.cell (i := 1) (by simp)
      have y2 := hx0.frz 0
      have y3 := hx0.frz 1
      have hlx := hx0.lt
      simp only [List.getElem_cons_zero, List.getElem_cons_succ] at y0 y1
      go_wp2
      refine bodyPost_ret (by simp [results, Try.results43, go_sem, *]; rfl) rfl ?_
      exact ⟨rfl, by go_grown⟩
  · have RV := Lib.hid (show false = decide (runsV n r f) from (decide_eq_false hrv).symm)
    clear hv hpv hrv
    go_enter Try.func43, Try.ntmps43
    go_wp2_with fail
    refine (sPathsV_is true A m c D n _ PV.out P1.out (by omega)).mono ?_
    rintro e w1 ⟨rfl, hn1⟩
    have hb : Below w.heap.size w w1 := bl hbz (Nat.le_refl _) hn1
    have hx0 := hx0.call hn1
    have R2 := Lib.hid (R1.out.topb hn1)
    clear hn1 P1 R1 hbz
    go_wp2_with fail
    refine (sRuns false R r d f n _ RV.out R2.out (by omega)).mono ?_
    rintro e w2 ⟨rfl, hn2⟩
    have hx0 := hx0.call hn2
    have hb := bl hb (Nat.le_refl _) hn2
    clear hn2 R2
    have y0 := hx0.cell (i := 0) (by simp)
    have y1 := hx0.cell (i := 1) (by simp)
    have y2 := hx0.frz 0
    have y3 := hx0.frz 1
    have hlx := hx0.lt
    simp only [List.getElem_cons_zero, List.getElem_cons_succ] at y0 y1
    go_wp2
    refine bodyPost_ret (by simp [results, Try.results43, go_sem, *]; rfl) rfl ?_
    exact ⟨rfl, by go_grown⟩
set_option maxHeartbeats 2000000 in
theorem iFit_no (A : Option Addr) (m c : Nat) (D : Nat → PD) (R : Option Addr) (r d : Nat) (f : Nat → Int) (n frm : Int) (w : World) (h : PsRn w w.heap.size A m D) (hR : Rn w w.heap.size R r f) (hm : m ≤ 1099511627776) (hr : r ≤ 1099511627776) (hv : ¬ (pathsV n D m = true ∧ runsV n r f ∧ 0 ≤ frm)) :
    Calls Try.prog 42 #[.int .i64 n, .slice A m c, .int .i64 frm, .slice R r d] w (NoPath w) := by
  have P0 := Lib.hid h
  have R0 := Lib.hid hR
  have P1 := Lib.hid (h.top (.cells #[.slice none 0 0, .slice none 0 0] 31))
  have R1 := Lib.hid (hR.top (.cells #[.slice none 0 0, .slice none 0 0] 31))
  have hx0 := Bx.new w [.slice none 0 0, .slice none 0 0] 31
  have hbz : Below w.heap.size w (w.alloc (.cells #[.slice none 0 0, .slice none 0 0] 31)) := by go_grown
  clear h hR
  cases hpv : pathsV n D m
  · have PV := Lib.hid hpv
    clear hv hpv
    go_enter Try.func42, Try.ntmps42
    go_wp2_with fail
    refine (iPathsV_is false A m c D n _ PV.out P1.out (by omega)).mono ?_
    rintro e w1 ⟨rfl, hn1⟩
    have hb : Below w.heap.size w w1 := bl hbz (Nat.le_refl _) hn1
    have hx0 := hx0.call hn1
    clear hn1 P1 R1 hbz
    have y0 := hx0.cell (i := 0) (by simp)
    have y1 := hx0.cell (i := 1) (by simp)
    have y2 := hx0.frz 0
    have y3 := hx0.frz 1
    have hlx := hx0.lt
    simp only [List.getElem_cons_zero, List.getElem_cons_succ] at y0 y1
    go_wp2
    refine bodyPost_ret (by simp [results, Try.results42, go_sem, *]; rfl) rfl ?_
    exact ⟨rfl, by go_grown⟩
  have PV := Lib.hid hpv
  rcases Classical.em (runsV n r f) with hrv | hrv
  · have hf : frm < 0 := Classical.byContradiction fun x => hv ⟨hpv, hrv, by omega⟩
    obtain rfl : (r : Int) = n := hrv.2.1
    have hn := hrv.1
    have RV := Lib.hid (show true = decide (runsV r r f) from (decide_eq_true hrv).symm)
    have NF := Lib.hid (show ¬ freeOK r D m 0 frm (f 0) from fun x => absurd x.2.2.2 (by omega))
    have hm8 : m ≤ 8 := (pathsV_iff.1 hpv).2.2.1
    obtain ⟨i0, ji0, jz0, jz1, jz2⟩ := info_parts intInfo
    have hmk := fun W : World => run_make (P := Try.prog) W 27 3 i0 (.int .i64 0) Try.underlying27 ji0 jz0 .i64 .i64 r r (by omega) (by omega) (by rw [jz2]; omega) (by omega)
    simp only [Int.toNat_natCast, jz1, Nat.mul_one] at hmk
    clear hv hpv hrv ji0 jz0 jz1 jz2
    go_enter Try.func42, Try.ntmps42
    go_wp2_with fail
    refine (iPathsV_is true A m c D r _ PV.out P1.out (by omega)).mono ?_
    rintro e w1 ⟨rfl, hn1⟩
    have hb : Below w.heap.size w w1 := bl hbz (Nat.le_refl _) hn1
    have hx0 := hx0.call hn1
    have R2 := Lib.hid (R1.out.topb hn1)
    clear hn1 P1 R1 hbz
    go_wp2_with fail
    refine (iRuns true R r d f r _ RV.out R2.out (by omega)).mono ?_
    rintro e w2 ⟨rfl, hn2⟩
    have hx0 := hx0.call hn2
    have hb := bl hb (Nat.le_refl _) hn2
    have hz1 : w.heap.size < w2.heap.size := hx0.lt
    clear hn2 R2
    go_wp2_with fail
    go_cut [10] from 27 to 31 (fun s10 wx => FitM w r s10 wx)
    case first =>
      go_region
      all_goals
        go_wp2_with fail
        go_meet
        refine fitM_mk (g1 := ?_) (g2 := ?_) (T := 3) (U := 3) (V := 31) hx0 hz1 hb (by go_grown) ?_ ?_ ?_ ?_ ?_
        rotate_left 4
        first | exact al0 _ _ _ _ | exact al1 _ _ _ _ | exact al2 _ _ _ _
        omega
        omega
        all_goals first | exact al0 _ _ _ _ | exact al1 _ _ _ _ | exact al2 _ _ _ _
    case rest =>
      clear hx0 hb hmk
      obtain ⟨B, g1, g2, rfl, hx0, _, _, _, _, hb⟩ := hcut
      go_wp2_with fail
      go_loopw [11, 35] (fun t i wr => FitZ w frm t i wr) (fun _ i _ => r - (intOf i).toNat)
      case atStart => exact ⟨rfl, rfl, hx0, hb⟩
      case round =>
        clear hx0 hb
        obtain ⟨rfl, rfl, hx0, hb⟩ := hrel
        obtain ⟨dr, dro, rfl, hdr, hcr⟩ := (R0.out.below hb) (by omega)
        have zr := hcr 0 (by omega)
        have hs := hb.size
        have j1 : (0 : Int) < (r : Int) := by omega
        have j2 : 0 < r := by omega
        have PP := Lib.hid ((P0.out.below hb).up hs)
        rw [Nat.add_zero] at zr
        clear hcr
        go_wp2_with fail
        refine (iFree_no A m c D r 0 frm (f 0) _ PP.out (by omega) NF.out).mono ?_
        rintro e w3 ⟨rfl, hn3⟩
        have hx0 := hx0.call hn3
        have hb := bl hb (Nat.le_refl _) hn3
        clear hn3 zr PP hs
        have y0 := hx0.cell (i := 0) (by simp)
        have y1 := hx0.cell (i := 1) (by simp)
        have y2 := hx0.frz 0
        have y3 := hx0.frz 1
        have hlx := hx0.lt
        simp only [List.getElem_cons_zero, List.getElem_cons_succ] at y0 y1
        go_wp2
        refine bodyPost_ret (by simp [results, Try.results42, go_sem, *]; rfl) rfl ?_
        exact ⟨rfl, by go_grown⟩
  · have RV := Lib.hid (show false = decide (runsV n r f) from (decide_eq_false hrv).symm)
    clear hv hpv hrv
    go_enter Try.func42, Try.ntmps42
    go_wp2_with fail
    refine (iPathsV_is true A m c D n _ PV.out P1.out (by omega)).mono ?_
    rintro e w1 ⟨rfl, hn1⟩
    have hb : Below w.heap.size w w1 := bl hbz (Nat.le_refl _) hn1
    have hx0 := hx0.call hn1
    have R2 := Lib.hid (R1.out.topb hn1)
    clear hn1 P1 R1 hbz
    go_wp2_with fail
    refine (iRuns false R r d f n _ RV.out R2.out (by omega)).mono ?_
    rintro e w2 ⟨rfl, hn2⟩
    have hx0 := hx0.call hn2
    have hb := bl hb (Nat.le_refl _) hn2
    clear hn2 R2
    have y0 := hx0.cell (i := 0) (by simp)
    have y1 := hx0.cell (i := 1) (by simp)
    have y2 := hx0.frz 0
    have y3 := hx0.frz 1
    have hlx := hx0.lt
    simp only [List.getElem_cons_zero, List.getElem_cons_succ] at y0 y1
    go_wp2
    refine bodyPost_ret (by simp [results, Try.results42, go_sem, *]; rfl) rfl ?_
    exact ⟨rfl, by go_grown⟩
end Go.Proofs.Ytjppkcfbhhjniaa
