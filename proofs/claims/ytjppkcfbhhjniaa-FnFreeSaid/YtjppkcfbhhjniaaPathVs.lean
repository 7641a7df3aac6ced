/-
  Contracts of PathsValid, the program's and the reference's.
-/
import Derived.Test.YtjppkcfbhhjniaaPathCm
import Derived.Test.YtjppkcfbhhjniaaK1
import Derived.Deep.RegionHeld3
namespace Go.Proofs.Ytjppkcfbhhjniaa
open Go.RowKit
set_option linter.unusedVariables false

def LenRes (w : World) (P : Nat → Prop) (e : Ending) (w' : World) : Prop := ∃ g c k : Nat, e = .returned (.slice (some ⟨g, 0, none⟩) k c) ∧ P k ∧ Below w.heap.size w w'
theorem intsRes_nil {w w' : World} {e : Ending} (h : IntsRes w [] e w') : LenRes w (· = 0) e w' := by
  obtain ⟨g, c, he, _, _, _, hb⟩ := h
  exact ⟨g, c, 0, he, rfl, hb⟩
theorem intsRes_len {w w' : World} {e : Ending} {xs : List Int} (h : IntsRes w xs e w') (h0 : xs ≠ []) (h5 : xs.length ≤ 5) : LenRes w (fun k => 0 < k ∧ k ≤ 5) e w' := by
  obtain ⟨g, c, he, _, _, _, hb⟩ := h
  exact ⟨g, c, xs.length, he, ⟨List.length_pos_iff.2 h0, h5⟩, hb⟩
set_option maxHeartbeats 4000000 in
theorem iPathsV (A : Option Addr) (m c : Nat) (D : Nat → PD) (n : Int) (w : World) (h : PsRn w w.heap.size A m D) (hm : m ≤ 1099511627776) :
    Calls Try.prog 27 #[.int .i64 n, .slice A m c] w fun e w' => e = .returned (.bool (pathsV n D m)) ∧ Below w.heap.size w w' := by
  by_cases hn : 1 ≤ n ∧ n ≤ 5
  rotate_left
  · have hr := hide (pathsV_no (l := D) (m := m) (fun x => hn ⟨x.1, x.2.1⟩))
    have N := Lib.hid hn
    clear hn
    go_enter Try.func27, Try.ntmps27
    go_wp2_with (go_at_call 58; refine (iSec_no _ _ N.out).mono ?_; rintro e w' ⟨rfl, rfl⟩)
    go_ret
    exact ⟨ret_bool hr.symm, Below.refl _ _⟩
  by_cases h8 : 8 < m
  · have hr := hide (pathsV_no (n := n) (l := D) (m := m) (fun x => absurd x.2.2.1 (by omega)))
    have hd : decide ((8 : Int) < (m : Int)) = true := decide_eq_true (by omega)
    have hd2 : decide (8 < m) = true := decide_eq_true h8
    have N := Lib.hid hn
    clear hn
    go_enter Try.func27, Try.ntmps27
    go_wp2_with (go_at_call 58; refine (iSec_yes _ _ N.out).mono ?_; rintro e w' ⟨rfl, rfl⟩)
    go_ret
    exact ⟨ret_bool hr.symm, Below.refl _ _⟩
  have hd : decide ((8 : Int) < (m : Int)) = false := decide_eq_false (by omega)
  have hd2 : decide (8 < m) = false := decide_eq_false h8
  have N := Lib.hid hn
  clear hn
  go_enter Try.func27, Try.ntmps27
  go_wp2_with (go_at_call 58; refine (iSec_yes _ _ N.out).mono ?_; rintro e w' ⟨rfl, rfl⟩)
  go_loopw [17] (fun i wr => ∃ k : Nat, k ≤ m ∧ i = .int .i64 k ∧ Hid (firstV n D k) ∧ PsRn wr w.heap.size A m D ∧ Below w.heap.size w wr) (fun i _ => m - (intOf i).toNat)
  case atStart => exact ⟨0, Nat.zero_le _, rfl, firstV_zero _ _, h, Below.refl _ _⟩
  case round =>
    clear h
    obtain ⟨k, hk, rfl, hF, hp, hb⟩ := hrel
    obtain ⟨wo, rfl⟩ : ∃ wo : World, wo = wr := ⟨_, rfl⟩
    have hsz := hb.size
    by_cases hlt : k < m
    · obtain ⟨b, off, a1, c1, a2, c2, n1, f1, n2, f2, rfl, hbB, hD, x0, x1, r1, r2⟩ := hp.at_ hlt
      have DD := Lib.hid hD
      clear hD
      have hk0 : (0 : Int) ≤ (k : Int) := by omega
      have hk1 : (k : Int) < (m : Int) := by omega
      cases hv : pathV n (D k)
      · have hr := hide (pathsV_no (n := n) (l := D) (m := m) (fun x => firstV_no1 hlt hv x.2.2.2))
        have V := Lib.hid (show pathV n ⟨n1, f1, n2, f2⟩ = false by rw [← DD.out]; exact hv)
        clear hv
        go_wp2_with fail
        refine (iValid_is false b (off + k * 2) a1 a2 n1 c1 n2 c2 f1 f2 n _ V.out x0 x1 (r1.up hsz) (r2.up hsz)).mono ?_
        rintro e w1 ⟨rfl, q, rfl⟩
        go_wp2
        go_ret
        exact ⟨ret_bool hr.symm, below_dn hb _⟩
      · have V := Lib.hid (show pathV n ⟨n1, f1, n2, f2⟩ = true by rw [← DD.out]; exact hv)
        have VV := Lib.hid hv
        clear hv
        go_wp2_with fail
        refine (iValid_is true b (off + k * 2) a1 a2 n1 c1 n2 c2 f1 f2 n _ V.out x0 x1 (r1.up hsz) (r2.up hsz)).mono ?_
        rintro e w1 ⟨rfl, q, rfl⟩
        go_wp2
        have hb2 := below_dn hb q
        have hp2 := hp.drewN q
        clear hb hp x0 x1 r1 r2
        go_loopw [27] (fun i wr => ∃ j : Nat, j ≤ k ∧ i = .int .i64 j ∧ Hid (∀ j', j' < j → clashL n (D j') (D k) = []) ∧ PsRn wr w.heap.size (some ⟨b, off, none⟩) m D ∧ Below w.heap.size w wr) (fun i _ => k - (intOf i).toNat)
        case atStart => exact ⟨0, Nat.zero_le _, rfl, fun _ h => absurd h (by omega), hp2, hb2⟩
        case round =>
          clear hp2 hb2
          obtain ⟨j, hj, rfl, hC, hp, hb⟩ := hrel
          have hsz := hb.size
          by_cases hjk : j < k
          · obtain ⟨b', off', d1, e1, d2, e2, m1, g1, m2, g2, e0, hbB', hD', y0, y1, s1, s2⟩ := hp.at_ (show j < m by omega)
            obtain ⟨b3, off3, a1', c1', a2', c2', n1', f1', n2', f2', e00, hbB3, hD3, x0, x1, r1, r2⟩ := hp.at_ hlt
            simp only [Option.some.injEq, Addr.mk.injEq, and_true] at e0 e00
            obtain ⟨rfl, rfl⟩ := e0
            obtain ⟨rfl, rfl⟩ := e00
            rw [DD.out] at hD3
            injection hD3 with i1 i2 i3 i4
            subst i1 i2 i3 i4
            have DJ := Lib.hid hD'
            clear hD'
            have R1 := Lib.hid (r1.up hsz)
            have R2 := Lib.hid (r2.up hsz)
            have S1 := Lib.hid (s1.up hsz)
            have S2 := Lib.hid (s2.up hsz)
            have hj0 : (0 : Int) ≤ (j : Int) := by omega
            have hj1 : (j : Int) < (m : Int) := by omega
            clear r1 r2 s1 s2
            by_cases hc : clashL n (D j) (D k) = []
            · have CL : Hid (clashL n ⟨m1, g1, m2, g2⟩ ⟨n1, f1, n2, f2⟩ = []) := by show _ = _; rw [← DD.out, ← DJ.out]; exact hc
              have hC2 : Hid (∀ j', j' < j + 1 → clashL n (D j') (D k) = []) := fun j' h => by
                by_cases e : j' = j
                · subst e; exact hc
                · exact hC j' (by omega)
              clear hc
              go_wp2_with fail
              go_region_held3 (fun V => V.cell? ⟨b, off + j * 2, none⟩ = some (.slice d1 m1 e1) ∧ V.cell? ⟨b, off + j * 2 + 1, none⟩ = some (.slice d2 m2 e2) ∧ V.cell? ⟨b, off + k * 2, none⟩ = some (.slice a1' n1 c1') ∧ V.cell? ⟨b, off + k * 2 + 1, none⟩ = some (.slice a2' n2 c2')) (go_keep)
                (first | (go_at_call 34; refine (iPathClash d1 d2 a1' a2' m1 e1 m2 e2 n1 c1' n2 c2' g1 g2 f1 f2 n _ S1.out.topd S2.out.topd R1.out.topd R2.out.topd).mono ?_; rintro e w1 hres; rw [CL.out] at hres; obtain ⟨gg, cc, kk, rfl, rfl, hn1⟩ := intsRes_nil hres; have hn1 := undrew hn1; have z0 := hn1.cell (p := ⟨b, off + j * 2, none⟩) (by simp; omega); have z1 := hn1.cell (p := ⟨b, off + j * 2 + 1, none⟩) (by simp; omega); have z2 := hn1.cell (p := ⟨b, off + k * 2, none⟩) (by simp; omega); have z3 := hn1.cell (p := ⟨b, off + k * 2 + 1, none⟩) (by simp; omega); clear hres))
              have hn2 : Below wr.heap.size wr w1 := ⟨hn1.os, hn1.tape, hn1.output, hn1.size, hn1.block⟩
              have hp1 := hp.below (hn2.mono hsz)
              have hb1 := bl hb (Nat.le_refl _) hn2
              clear hp hb hn1 hn2 z0 z1 z2 z3 x0 x1 y0 y1
              go_wp2
              go_roundw
              case rel => exact ⟨j + 1, by omega, by go_num, hC2, hp1, hb1⟩
              case measure => simp [intOf]; omega
            · have CL : Hid (¬ clashL n ⟨m1, g1, m2, g2⟩ ⟨n1, f1, n2, f2⟩ = []) := by show ¬ _ = _; rw [← DD.out, ← DJ.out]; exact hc
              have hr := hide (pathsV_no (n := n) (l := D) (m := m) (fun x => firstV_no2 hlt hjk hc x.2.2.2))
              clear hc
              go_wp2_with fail
              go_region_held3 (fun V => V.cell? ⟨b, off + j * 2, none⟩ = some (.slice d1 m1 e1) ∧ V.cell? ⟨b, off + j * 2 + 1, none⟩ = some (.slice d2 m2 e2) ∧ V.cell? ⟨b, off + k * 2, none⟩ = some (.slice a1' n1 c1') ∧ V.cell? ⟨b, off + k * 2 + 1, none⟩ = some (.slice a2' n2 c2')) (go_keep)
                (first | (go_at_call 34; refine (iPathClash d1 d2 a1' a2' m1 e1 m2 e2 n1 c1' n2 c2' g1 g2 f1 f2 n _ S1.out.topd S2.out.topd R1.out.topd R2.out.topd).mono ?_; rintro e w1 hres; obtain ⟨gg, cc, kk, rfl, ⟨hkk, hkk5⟩, hn1⟩ := intsRes_len hres CL.out (clashL_len _ _ _); have hn1 := undrew hn1; have z0 := hn1.cell (p := ⟨b, off + j * 2, none⟩) (by simp; omega); have z1 := hn1.cell (p := ⟨b, off + j * 2 + 1, none⟩) (by simp; omega); have z2 := hn1.cell (p := ⟨b, off + k * 2, none⟩) (by simp; omega); have z3 := hn1.cell (p := ⟨b, off + k * 2 + 1, none⟩) (by simp; omega); clear hres))
              have hn2 : Below wr.heap.size wr w1 := ⟨hn1.os, hn1.tape, hn1.output, hn1.size, hn1.block⟩
              have hb1 := bl hb (Nat.le_refl _) hn2
              have hkd : decide ((0 : Int) < (kk : Int)) = true := decide_eq_true (by omega)
              clear hp hb hn1 hn2 z0 z1 z2 z3 x0 x1 y0 y1
              go_wp2
              go_ret
              exact ⟨ret_bool hr.symm, hb1⟩
          · obtain rfl : j = k := by omega
            have hF2 := hide (firstV_step hF.out VV.out hC.out)
            go_wp2
            go_roundw
            case rel => exact ⟨j + 1, by omega, by go_num, hF2, hp, hb⟩
            case measure => simp [intOf]; omega
    · obtain rfl : k = m := by omega
      have hr := hide ((pathsV_iff (n := n) (l := D) (m := k)).2 ⟨N.out.1, N.out.2, by omega, hF.out⟩)
      go_wp2
      go_ret
      exact ⟨ret_bool hr.symm, hb⟩
set_option maxHeartbeats 4000000 in
theorem sPathsV (A : Option Addr) (m c : Nat) (D : Nat → PD) (n : Int) (w : World) (h : PsRn w w.heap.size A m D) (hm : m ≤ 1099511627776) :
    Calls Try.prog 37 #[.int .i64 n, .slice A m c] w fun e w' => e = .returned (.bool (pathsV n D m)) ∧ Below w.heap.size w w' := by
  by_cases hn : 1 ≤ n ∧ n ≤ 5
  rotate_left
  · have hr := hide (pathsV_no (l := D) (m := m) (fun x => hn ⟨x.1, x.2.1⟩))
    have N := Lib.hid hn
    clear hn
    go_enter Try.func37, Try.ntmps37
    go_wp2_with (go_at_call 51; refine (sIn_no _ _ _ _ N.out).mono ?_; rintro e w' ⟨rfl, rfl⟩)
    go_ret
    exact ⟨ret_bool hr.symm, Below.refl _ _⟩
  by_cases h8 : 8 < m
  · have hr := hide (pathsV_no (n := n) (l := D) (m := m) (fun x => absurd x.2.2.1 (by omega)))
    have hd : decide ((8 : Int) < (m : Int)) = true := decide_eq_true (by omega)
    have hd2 : decide (8 < m) = true := decide_eq_true h8
    have N := Lib.hid hn
    clear hn
    go_enter Try.func37, Try.ntmps37
    go_wp2_with (go_at_call 51; refine (sIn_yes _ _ _ _ N.out).mono ?_; rintro e w' ⟨rfl, rfl⟩)
    go_ret
    exact ⟨ret_bool hr.symm, Below.refl _ _⟩
  have hd : decide ((8 : Int) < (m : Int)) = false := decide_eq_false (by omega)
  have hd2 : decide (8 < m) = false := decide_eq_false h8
  have N := Lib.hid hn
  clear hn
  go_enter Try.func37, Try.ntmps37
  go_wp2_with (go_at_call 51; refine (sIn_yes _ _ _ _ N.out).mono ?_; rintro e w' ⟨rfl, rfl⟩)
  go_loopw [5] (fun i wr => ∃ k : Nat, k ≤ m ∧ i = .int .i64 k ∧ Hid (firstV n D k) ∧ PsRn wr w.heap.size A m D ∧ Below w.heap.size w wr) (fun i _ => m - (intOf i).toNat)
  case atStart => exact ⟨0, Nat.zero_le _, rfl, firstV_zero _ _, h, Below.refl _ _⟩
  case round =>
    clear h
    obtain ⟨k, hk, rfl, hF, hp, hb⟩ := hrel
    obtain ⟨wo, rfl⟩ : ∃ wo : World, wo = wr := ⟨_, rfl⟩
    have hsz := hb.size
    by_cases hlt : k < m
    · obtain ⟨b, off, a1, c1, a2, c2, n1, f1, n2, f2, rfl, hbB, hD, x0, x1, r1, r2⟩ := hp.at_ hlt
      have DD := Lib.hid hD
      clear hD
      have hk0 : (0 : Int) ≤ (k : Int) := by omega
      have hk1 : (k : Int) < (m : Int) := by omega
      cases hv : pathV n (D k)
      · have hr := hide (pathsV_no (n := n) (l := D) (m := m) (fun x => firstV_no1 hlt hv x.2.2.2))
        have V := Lib.hid (show pathV n ⟨n1, f1, n2, f2⟩ = false by rw [← DD.out]; exact hv)
        clear hv
        go_wp2_with fail
        refine (sValid_is false a1 a2 n1 c1 n2 c2 f1 f2 n _ V.out (r1.up hsz) (r2.up hsz)).mono ?_
        rintro e w1 ⟨rfl, hn⟩
        have hb1 := bl hb (Nat.le_refl _) hn
        clear hn
        go_wp2
        go_ret
        exact ⟨ret_bool hr.symm, hb1⟩
      · have V := Lib.hid (show pathV n ⟨n1, f1, n2, f2⟩ = true by rw [← DD.out]; exact hv)
        have VV := Lib.hid hv
        clear hv
        go_wp2_with fail
        refine (sValid_is true a1 a2 n1 c1 n2 c2 f1 f2 n _ V.out (r1.up hsz) (r2.up hsz)).mono ?_
        rintro e w1 ⟨rfl, hn⟩
        have hb2 := bl hb (Nat.le_refl _) hn
        have hp2 := hp.below (hn.mono hsz)
        clear hb hp x0 x1 r1 r2 hn
        go_wp2
        go_loopw [6] (fun i wr => ∃ j : Nat, j ≤ k ∧ i = .int .i64 j ∧ Hid (∀ j', j' < j → clashL n (D j') (D k) = []) ∧ PsRn wr w.heap.size (some ⟨b, off, none⟩) m D ∧ Below w.heap.size w wr) (fun i _ => k - (intOf i).toNat)
        case atStart => exact ⟨0, Nat.zero_le _, rfl, fun _ h => absurd h (by omega), hp2, hb2⟩
        case round =>
          clear hp2 hb2
          obtain ⟨j, hj, rfl, hC, hp, hb⟩ := hrel
          have hsz := hb.size
          by_cases hjk : j < k
          · obtain ⟨b', off', d1, e1, d2, e2, m1, g1, m2, g2, e0, hbB', hD', y0, y1, s1, s2⟩ := hp.at_ (show j < m by omega)
            obtain ⟨b3, off3, a1', c1', a2', c2', n1', f1', n2', f2', e00, hbB3, hD3, x0, x1, r1, r2⟩ := hp.at_ hlt
            simp only [Option.some.injEq, Addr.mk.injEq, and_true] at e0 e00
            obtain ⟨rfl, rfl⟩ := e0
            obtain ⟨rfl, rfl⟩ := e00
            rw [DD.out] at hD3
            injection hD3 with i1 i2 i3 i4
            subst i1 i2 i3 i4
            have DJ := Lib.hid hD'
            clear hD'
            have R1 := Lib.hid (r1.up hsz)
            have R2 := Lib.hid (r2.up hsz)
            have S1 := Lib.hid (s1.up hsz)
            have S2 := Lib.hid (s2.up hsz)
            have hj0 : (0 : Int) ≤ (j : Int) := by omega
            have hj1 : (j : Int) < (m : Int) := by omega
            clear r1 r2 s1 s2
            by_cases hc : clashL n (D j) (D k) = []
            · have CL : Hid (clashL n ⟨n1, f1, n2, f2⟩ ⟨m1, g1, m2, g2⟩ = []) := by show _ = _; rw [← DD.out, ← DJ.out, clashL_comm]; exact hc
              have hC2 : Hid (∀ j', j' < j + 1 → clashL n (D j') (D k) = []) := fun j' h => by
                by_cases e : j' = j
                · subst e; exact hc
                · exact hC j' (by omega)
              clear hc
              go_wp2_with fail
              go_region_held3 (fun V => V.cell? ⟨b, off + j * 2, none⟩ = some (.slice d1 m1 e1) ∧ V.cell? ⟨b, off + j * 2 + 1, none⟩ = some (.slice d2 m2 e2) ∧ V.cell? ⟨b, off + k * 2, none⟩ = some (.slice a1' n1 c1') ∧ V.cell? ⟨b, off + k * 2 + 1, none⟩ = some (.slice a2' n2 c2')) (go_keep)
                (first | (go_at_call 35; refine (sPathClash a1' a2' d1 d2 n1 c1' n2 c2' m1 e1 m2 e2 f1 f2 g1 g2 n _ R1.out.topd R2.out.topd S1.out.topd S2.out.topd).mono ?_; rintro e w1 hres; rw [CL.out] at hres; obtain ⟨gg, cc, kk, rfl, rfl, hn1⟩ := intsRes_nil hres; have hn1 := undrew hn1; have z0 := hn1.cell (p := ⟨b, off + j * 2, none⟩) (by simp; omega); have z1 := hn1.cell (p := ⟨b, off + j * 2 + 1, none⟩) (by simp; omega); have z2 := hn1.cell (p := ⟨b, off + k * 2, none⟩) (by simp; omega); have z3 := hn1.cell (p := ⟨b, off + k * 2 + 1, none⟩) (by simp; omega); clear hres))
              have hn2 : Below wr.heap.size wr w1 := ⟨hn1.os, hn1.tape, hn1.output, hn1.size, hn1.block⟩
              have hp1 := hp.below (hn2.mono hsz)
              have hb1 := bl hb (Nat.le_refl _) hn2
              clear hp hb hn1 hn2 z0 z1 z2 z3 x0 x1 y0 y1
              go_wp2
              go_roundw
              case rel => exact ⟨j + 1, by omega, by go_num, hC2, hp1, hb1⟩
              case measure => simp [intOf]; omega
            · have CL : Hid (¬ clashL n ⟨n1, f1, n2, f2⟩ ⟨m1, g1, m2, g2⟩ = []) := by show ¬ _ = _; rw [← DD.out, ← DJ.out, clashL_comm]; exact hc
              have hr := hide (pathsV_no (n := n) (l := D) (m := m) (fun x => firstV_no2 hlt hjk hc x.2.2.2))
              clear hc
              go_wp2_with fail
              go_region_held3 (fun V => V.cell? ⟨b, off + j * 2, none⟩ = some (.slice d1 m1 e1) ∧ V.cell? ⟨b, off + j * 2 + 1, none⟩ = some (.slice d2 m2 e2) ∧ V.cell? ⟨b, off + k * 2, none⟩ = some (.slice a1' n1 c1') ∧ V.cell? ⟨b, off + k * 2 + 1, none⟩ = some (.slice a2' n2 c2')) (go_keep)
                (first | (go_at_call 35; refine (sPathClash a1' a2' d1 d2 n1 c1' n2 c2' m1 e1 m2 e2 f1 f2 g1 g2 n _ R1.out.topd R2.out.topd S1.out.topd S2.out.topd).mono ?_; rintro e w1 hres; obtain ⟨gg, cc, kk, rfl, ⟨hkk, hkk5⟩, hn1⟩ := intsRes_len hres CL.out (clashL_len _ _ _); have hn1 := undrew hn1; have z0 := hn1.cell (p := ⟨b, off + j * 2, none⟩) (by simp; omega); have z1 := hn1.cell (p := ⟨b, off + j * 2 + 1, none⟩) (by simp; omega); have z2 := hn1.cell (p := ⟨b, off + k * 2, none⟩) (by simp; omega); have z3 := hn1.cell (p := ⟨b, off + k * 2 + 1, none⟩) (by simp; omega); clear hres))
              have hn2 : Below wr.heap.size wr w1 := ⟨hn1.os, hn1.tape, hn1.output, hn1.size, hn1.block⟩
              have hb1 := bl hb (Nat.le_refl _) hn2
              have hkd : decide ((0 : Int) < (kk : Int)) = true := decide_eq_true (by omega)
              clear hp hb hn1 hn2 z0 z1 z2 z3 x0 x1 y0 y1
              go_wp2
              go_ret
              exact ⟨ret_bool hr.symm, hb1⟩
          · obtain rfl : j = k := by omega
            have hF2 := hide (firstV_step hF.out VV.out hC.out)
            go_wp2
            go_roundw
            case rel => exact ⟨j + 1, by omega, by go_num, hF2, hp, hb⟩
            case measure => simp [intOf]; omega
    · obtain rfl : k = m := by omega
      have hr := hide ((pathsV_iff (n := n) (l := D) (m := k)).2 ⟨N.out.1, N.out.2, by omega, hF.out⟩)
      go_wp2
      go_ret
      exact ⟨ret_bool hr.symm, hb⟩
end Go.Proofs.Ytjppkcfbhhjniaa
