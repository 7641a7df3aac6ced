/-
  Contracts of l2Free and of the reference's PathsFree.
-/
import Derived.Test.YtjppkcfbhhjniaaPathOr
namespace Go.Proofs.Ytjppkcfbhhjniaa
open Go.RowKit
set_option linter.unusedVariables false

theorem drop_ord {F : Nat → Int} {m j x : Nat} (hj : j < (ordN F m).length) (hx : (ordN F m)[j] = x) : (ordN F m).drop j = x :: (ordN F m).drop (j + 1) := by
  rw [List.drop_eq_getElem_cons hj, hx]
def FreeR (w : World) (T m : Nat) (F G : Nat → Int) (run V : Int) (g c : Nat) (t i : Value) (wr : World) : Prop :=
  ∃ (j : Nat) (u : Int), j ≤ m ∧ i = .int .i64 j ∧ t = .int .i64 u ∧ (0 ≤ u ∧ u ≤ 2000) ∧ Hid (freeGo F G run u ((ordN F m).drop j) = V) ∧ wr.ownsRow w.heap.size T 1 (.slice (some ⟨g, 0, none⟩) m c) m (nats (ordN F m)) ∧ Below w.heap.size w wr
set_option maxHeartbeats 4000000 in
theorem sFreeAt (A : Option Addr) (m c : Nat) (D : Nat → PD) (n : Int) (k : Nat) (frm run : Int) (w : World) (h : PsRn w w.heap.size A m D) (hv : hasS n D m k = true) (hf : 0 ≤ frm ∧ frm ≤ 2000) (hr : 1 ≤ run ∧ run ≤ 100) (V : Int) (hV : freeGo (fun i => (D i).f1 k) (fun i => (D i).f2 k) run frm (ordN (fun i => (D i).f1 k) m) = V) :
    Calls Try.prog 68 #[.slice A m c, .int .i64 (k : Int), .int .i64 frm, .int .i64 run] w fun e w' => e = .returned (.int .i64 V) ∧ Below w.heap.size w w' := by
  obtain ⟨hpv, h0, hkn⟩ := hasS_iff.1 hv
  have hm8 : m ≤ 8 := (pathsV_iff.1 hpv).2.2.1
  have PV := Lib.hid hpv
  have H0 := Lib.hid h
  have VV := Lib.hid hv
  obtain ⟨F, hF⟩ : ∃ F : Nat → Int, F = fun i => (D i).f1 k := ⟨_, rfl⟩
  obtain ⟨G, hG⟩ : ∃ F : Nat → Int, F = fun i => (D i).f2 k := ⟨_, rfl⟩
  rw [← hF, ← hG] at hV
  have FF := Lib.hid hF
  have GG := Lib.hid hG
  have HV := Lib.hid hV
  clear hv hpv h hF hG hV
  go_enter Try.func68, Try.ntmps68
  go_wp2_with fail
  refine (sOrder A m c D n k _ H0.out VV.out).mono ?_
  rw [← FF.out]
  rintro e w1 ⟨g, cp, rfl, hown, hb⟩
  go_wp2
  go_loopw [2, 10] (fun t i wr => FreeR w 3 m F G run V g cp t i wr) (fun _ i _ => m - (intOf i).toNat)
  case atStart => exact ⟨0, frm, Nat.zero_le _, rfl, rfl, hf, HV, hown, hb⟩
  case round =>
    clear hown hb HV hf
    obtain ⟨j, t, hj, rfl, rfl, ⟨ht0, ht1⟩, hT, hown, hb⟩ := hrel
    by_cases hlt : j < m
    · have hjl : j < (ordN F m).length := by rw [ord_len]; exact hlt
      obtain ⟨x, hx⟩ : ∃ x, (ordN F m)[j] = x := ⟨_, rfl⟩
      have hxm : x < m := by rw [← hx]; exact ord_lt F m hjl
      have hcx := nats_cell hown hjl
      rw [hx] at hcx
      have hst : freeGo F G run t (x :: (ordN F m).drop (j + 1)) = V := by rw [← drop_ord hjl hx]; exact hT.out
      have hps := H0.out.below hb
      obtain ⟨b, off, a1, c1, a2, c2, n1, f1, n2, f2, rfl, hbB, hD, x0, x1, r1, r2⟩ := hps.at_ hxm
      have hat := pathsV_at PV.out hxm
      rw [hD] at hat
      have hF1 : F x = f1 k := by rw [FF.out]; show (D x).f1 k = _; rw [hD]
      have hG1 : G x = f2 k := by rw [GG.out]; show (D x).f2 k = _; rw [hD]
      obtain ⟨hn1, hn2, ht⟩ := hat
      have ht2 := ht k hkn
      simp only at hn1 hn2 ht2
      obtain ⟨b1, b2, b3⟩ := ht2
      obtain ⟨d1, o1, rfl, hd1, hc1⟩ := r1 (by omega)
      obtain ⟨d2, o2, rfl, hd2, hc2⟩ := r2 (by omega)
      have z1 := hc1 k (by omega)
      have z2 := hc2 k (by omega)
      have j0 : (0 : Int) ≤ (j : Int) := by omega
      have j1 : (j : Int) < (m : Int) := by omega
      have j2 : (0 : Int) ≤ (x : Int) := by omega
      have j3 : (x : Int) < (m : Int) := by omega
      have j6 : (0 : Int) ≤ (k : Int) := by omega
      have j7 : (k : Int) < (n1 : Int) := by omega
      have j8 : (k : Int) < (n2 : Int) := by omega
      have hs := hb.size
      have y1 : d1 < wr.heap.size := by omega
      have y2 : d2 < wr.heap.size := by omega
      have y3 : IntKind.i64.wrap (t + run) = t + run := IntWalk.i64_in _ (by omega)
      have HO := Lib.hid hown
      have HT := Lib.hid hst
      clear hc1 hc2 ht hD hT hown hx hjl r1 r2 hps
      by_cases e1 : t < G x
      · have d1 : decide (t < f2 k) = true := decide_eq_true (by omega)
        by_cases e2 : F x < t + run
        · have d2 : decide (f1 k < t + run) = true := decide_eq_true (by omega)
          have hT2 : Hid (freeGo F G run (f2 k) ((ordN F m).drop (j + 1)) = V) := by have := HT.out; rw [freeGo, if_pos ⟨e1, e2⟩, hG1] at this; exact this
          clear e1 e2 hF1 hG1 HT
          go_wp2
          go_roundw
          case rel => exact ⟨j + 1, f2 k, by omega, by go_num, rfl, by omega, hT2, HO.out.alloc _, hb.alloc hs _⟩
          case measure => simp [intOf]; omega
        · have d2 : decide (f1 k < t + run) = false := decide_eq_false (by omega)
          have hT2 : Hid (freeGo F G run t ((ordN F m).drop (j + 1)) = V) := by have := HT.out; rw [freeGo, if_neg (fun h => e2 h.2)] at this; exact this
          clear e1 e2 hF1 hG1 HT
          go_wp2
          go_roundw
          case rel => exact ⟨j + 1, t, by omega, by go_num, rfl, by omega, hT2, HO.out.alloc _, hb.alloc hs _⟩
          case measure => simp [intOf]; omega
      · have d1 : decide (t < f2 k) = false := decide_eq_false (by omega)
        have hT2 : Hid (freeGo F G run t ((ordN F m).drop (j + 1)) = V) := by have := HT.out; rw [freeGo, if_neg (fun h => e1 h.1)] at this; exact this
        clear e1 hF1 hG1 HT
        go_wp2
        go_roundw
        case rel => exact ⟨j + 1, t, by omega, by go_num, rfl, by omega, hT2, HO.out.alloc _, hb.alloc hs _⟩
        case measure => simp [intOf]; omega
    · obtain rfl : j = m := by omega
      have hT2 : t = V := by have := hT.out; rwa [List.drop_of_length_le (by rw [ord_len]; exact Nat.le_refl _)] at this
      clear hown
      go_wp2
      go_ret
      exact ⟨ret_int hT2, hb⟩
/-- The answer of PathsFree. -/
def freeOK (n : Int) (D : Nat → PD) (m : Nat) (k frm run : Int) : Prop := hasS n D m k = true ∧ 1 ≤ run ∧ run ≤ 100 ∧ 0 ≤ frm
set_option maxHeartbeats 1000000 in
theorem sFree_yes (A : Option Addr) (m c : Nat) (D : Nat → PD) (n : Int) (k : Nat) (frm run : Int) (w : World) (h : PsRn w w.heap.size A m D) (hv : freeOK n D m k frm run) (v : Int) (ok : Bool) (hF : IsFree (fun i => (D i).f1 k) (fun i => (D i).f2 k) m frm run v ok) :
    Calls Try.prog 40 #[.int .i64 n, .slice A m c, .int .i64 (k : Int), .int .i64 frm, .int .i64 run] w fun e w' => e = .returned (.tuple #[.int .i64 v, .bool ok]) ∧ Below w.heap.size w w' := by
  obtain ⟨hv, hr1, hr2, hf1⟩ := hv
  obtain ⟨hpv, h0, hkn⟩ := hasS_iff.1 hv
  have hm8 : m ≤ 8 := (pathsV_iff.1 hpv).2.2.1
  have hn1 : 1 ≤ n := (pathsV_iff.1 hpv).1
  have hn5 : n ≤ 5 := (pathsV_iff.1 hpv).2.1
  have hk0 : (0 : Int) ≤ (k : Int) ∧ (k : Int) ≤ n - 1 := by omega
  have hr0 : (1 : Int) ≤ run ∧ run ≤ 100 := by omega
  have PV := Lib.hid hpv
  have VV := Lib.hid hv
  by_cases hf2 : frm ≤ 2000
  · have hf0 : (0 : Int) ≤ frm ∧ frm ≤ 2000 := by omega
    obtain ⟨V, hV⟩ : ∃ V, freeGo (fun i => (D i).f1 k) (fun i => (D i).f2 k) run frm (ordN (fun i => (D i).f1 k) m) = V := ⟨_, rfl⟩
    have hbd := freeGo_bd (fun i => (D i).f1 k) (fun i => (D i).f2 k) run (ordN (fun i => (D i).f1 k) m) (fun x hx => by
      have := (pathsV_at PV.out ((ord_mem _ m x).1 hx)).2.2 k hkn
      show 0 ≤ (D x).f2 k ∧ (D x).f2 k ≤ 2000
      omega) frm hf0.1 hf0.2
    have hres : (2000 < V + run → v = 0 ∧ ok = false) ∧ (V + run ≤ 2000 → v = V ∧ ok = true) := by
      refine ⟨fun hh => ?_, fun hh => ?_⟩
      · exact hF.eq (free_no _ _ _ _ _ (by rw [hV]; exact hh))
      · have := free_yes (fun i => (D i).f1 k) (fun i => (D i).f2 k) m frm run (by rw [hV]; exact hh); rw [hV] at this; exact hF.eq this
    rw [hV] at hbd
    obtain ⟨hb0, hb1⟩ := hbd
    have HV := Lib.hid hV
    clear hV hF hv hpv
    have hw : IntKind.i64.wrap (V + run) = V + run := IntWalk.i64_in _ (by omega)
    by_cases hh : 2000 < V + run
    · obtain ⟨rfl, rfl⟩ := hres.1 hh
      have hd : decide (2000 < V + run) = true := decide_eq_true hh
      clear hres hh
      go_enter Try.func40, Try.ntmps40
      go_wp2_with fail
      refine (sPathsV_is true A m c D n _ PV.out h (by omega)).mono ?_
      rintro e w1 ⟨rfl, hb⟩
      go_wp2_with (first | (go_at_call_of 51 (Value.int .i64 (k : Int)); refine (sIn_yes _ _ _ _ hk0).mono ?_; rintro e w' ⟨rfl, rfl⟩) | (go_at_call_of 51 (Value.int .i64 run); refine (sIn_yes _ _ _ _ hr0).mono ?_; rintro e w' ⟨rfl, rfl⟩) | (go_at_call_of 51 (Value.int .i64 frm); refine (sIn_yes _ _ _ _ hf0).mono ?_; rintro e w' ⟨rfl, rfl⟩))
      refine (sFreeAt A m c D n k frm run _ (h.topb hb) VV.out hf0 hr0 V HV.out).mono ?_
      rintro e w2 ⟨rfl, hb2⟩
      have hb := bl hb (Nat.le_refl _) hb2
      go_wp2
      go_ret2
      exact ⟨rfl, hb⟩
    · obtain ⟨rfl, rfl⟩ := hres.2 (by omega)
      have hd : decide (2000 < v + run) = false := decide_eq_false hh
      clear hres hh
      go_enter Try.func40, Try.ntmps40
      go_wp2_with fail
      refine (sPathsV_is true A m c D n _ PV.out h (by omega)).mono ?_
      rintro e w1 ⟨rfl, hb⟩
      go_wp2_with (first | (go_at_call_of 51 (Value.int .i64 (k : Int)); refine (sIn_yes _ _ _ _ hk0).mono ?_; rintro e w' ⟨rfl, rfl⟩) | (go_at_call_of 51 (Value.int .i64 run); refine (sIn_yes _ _ _ _ hr0).mono ?_; rintro e w' ⟨rfl, rfl⟩) | (go_at_call_of 51 (Value.int .i64 frm); refine (sIn_yes _ _ _ _ hf0).mono ?_; rintro e w' ⟨rfl, rfl⟩))
      refine (sFreeAt A m c D n k frm run _ (h.topb hb) VV.out hf0 hr0 v HV.out).mono ?_
      rintro e w2 ⟨rfl, hb2⟩
      have hb := bl hb (Nat.le_refl _) hb2
      go_wp2
      go_ret2
      exact ⟨rfl, hb⟩
  · obtain ⟨rfl, rfl⟩ := hF.eq (free_late _ _ _ _ _ (by omega) hr1)
    have hno : ¬ ((0 : Int) ≤ frm ∧ frm ≤ 2000) := by omega
    clear hF hv hpv
    go_enter Try.func40, Try.ntmps40
    go_wp2_with fail
    refine (sPathsV_is true A m c D n _ PV.out h (by omega)).mono ?_
    rintro e w1 ⟨rfl, hb⟩
    go_wp2_with (first | (go_at_call_of 51 (Value.int .i64 (k : Int)); refine (sIn_yes _ _ _ _ hk0).mono ?_; rintro e w' ⟨rfl, rfl⟩) | (go_at_call_of 51 (Value.int .i64 run); refine (sIn_yes _ _ _ _ hr0).mono ?_; rintro e w' ⟨rfl, rfl⟩) | (go_at_call_of 51 (Value.int .i64 frm); refine (sIn_no _ _ _ _ hno).mono ?_; rintro e w' ⟨rfl, rfl⟩))
    go_ret2
    exact ⟨rfl, hb⟩
set_option maxHeartbeats 1000000 in
theorem sFree_no (A : Option Addr) (m c : Nat) (D : Nat → PD) (n k frm run : Int) (w : World) (h : PsRn w w.heap.size A m D) (hm : m ≤ 1099511627776) (hv : ¬ freeOK n D m k frm run) :
    Calls Try.prog 40 #[.int .i64 n, .slice A m c, .int .i64 k, .int .i64 frm, .int .i64 run] w fun e w' => e = .returned (.tuple #[.int .i64 0, .bool false]) ∧ Below w.heap.size w w' := by
  cases hpv : pathsV n D m
  · have V := Lib.hid hpv
    clear hv hpv
    go_enter Try.func40, Try.ntmps40
    go_wp2_with fail
    refine (sPathsV_is false A m c D n _ V.out h hm).mono ?_
    rintro e w1 ⟨rfl, hb⟩
    go_wp2
    go_ret2
    exact ⟨rfl, hb⟩
  have hn1 : 1 ≤ n := (pathsV_iff.1 hpv).1
  have hn5 : n ≤ 5 := (pathsV_iff.1 hpv).2.1
  have V := Lib.hid hpv
  by_cases hk : 0 ≤ k ∧ k ≤ n - 1
  rotate_left
  · clear hv hpv
    go_enter Try.func40, Try.ntmps40
    go_wp2_with fail
    refine (sPathsV_is true A m c D n _ V.out h hm).mono ?_
    rintro e w1 ⟨rfl, hb⟩
    go_wp2_with (go_at_call_of 51 (Value.int .i64 k); refine (sIn_no _ _ _ _ hk).mono ?_; rintro e w' ⟨rfl, rfl⟩)
    go_ret2
    exact ⟨rfl, hb⟩
  by_cases hr : 1 ≤ run ∧ run ≤ 100
  rotate_left
  · clear hv hpv
    go_enter Try.func40, Try.ntmps40
    go_wp2_with fail
    refine (sPathsV_is true A m c D n _ V.out h hm).mono ?_
    rintro e w1 ⟨rfl, hb⟩
    go_wp2_with (first | (go_at_call_of 51 (Value.int .i64 k); refine (sIn_yes _ _ _ _ hk).mono ?_; rintro e w' ⟨rfl, rfl⟩) | (go_at_call_of 51 (Value.int .i64 run); refine (sIn_no _ _ _ _ hr).mono ?_; rintro e w' ⟨rfl, rfl⟩))
    go_ret2
    exact ⟨rfl, hb⟩
  have hf : ¬ (0 ≤ frm ∧ frm ≤ 2000) := fun x => hv ⟨hasS_yes hpv (by omega), hr.1, hr.2, x.1⟩
  clear hv hpv
  go_enter Try.func40, Try.ntmps40
  go_wp2_with fail
  refine (sPathsV_is true A m c D n _ V.out h hm).mono ?_
  rintro e w1 ⟨rfl, hb⟩
  go_wp2_with (first | (go_at_call_of 51 (Value.int .i64 k); refine (sIn_yes _ _ _ _ hk).mono ?_; rintro e w' ⟨rfl, rfl⟩) | (go_at_call_of 51 (Value.int .i64 run); refine (sIn_yes _ _ _ _ hr).mono ?_; rintro e w' ⟨rfl, rfl⟩) | (go_at_call_of 51 (Value.int .i64 frm); refine (sIn_no _ _ _ _ hf).mono ?_; rintro e w' ⟨rfl, rfl⟩))
  go_ret2
  exact ⟨rfl, hb⟩
end Go.Proofs.Ytjppkcfbhhjniaa
