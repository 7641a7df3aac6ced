/-
  The walk of FnPathsOrder.
-/
import Derived.Test.YtjppkcfbhhjniaaDrawPw
import Derived.Test.YtjppkcfbhhjniaaLawS
import Derived.BigQuiet
import Derived.Deep.QuietTactic
import Derived.Test.YtjppkcfbhhjniaaPathGp
namespace Go.Proofs.Ytjppkcfbhhjniaa
open Go.RowKit Go.Deep
set_option linter.unusedVariables false

/-- Is the number among the first n? -/
def hasV (n : Nat) (f : Nat → Int) (x : Int) : Bool := decide (∃ t, t < n ∧ f t = x)
set_option maxHeartbeats 1000000 in
theorem hasI (v : Bool) (A : Option Addr) (n c : Nat) (f : Nat → Int) (x : Int) (w : World) (h : Rn w w.heap.size A n f) (hn : n ≤ 1099511627776) (hv : v = hasV n f x) :
    Calls Try.prog 47 #[.slice A n c, .int .i64 x] w fun e w' => e = .returned (.bool v) ∧ w' = w := by
  have V := Lib.hid hv
  have H0 := Lib.hid h
  clear hv h
  go_enter Try.func47, Try.ntmps47
  go_wp2
  go_loopw [5] (fun i wr => ∃ k : Nat, k ≤ n ∧ i = .int .i64 k ∧ Hid (∀ j, j < k → f j ≠ x) ∧ wr = w) (fun i _ => n - (intOf i).toNat)
  case atStart => exact ⟨0, Nat.zero_le _, rfl, fun _ h => absurd h (by omega), rfl⟩
  case round =>
    obtain ⟨k, hk, rfl, hE, rfl⟩ := hrel
    by_cases hlt : k < n
    · obtain ⟨b, off, rfl, hbB, hc⟩ := H0.out (by omega)
      have hcell := hc k hlt
      have hk0 : (0 : Int) ≤ (k : Int) := by omega
      have hk1 : (k : Int) < (n : Int) := by omega
      clear hc
      by_cases he : f k = x
      · have hr := hide (show v = true by rw [V.out]; exact decide_eq_true ⟨k, hlt, he⟩)
        have d : (f k == x) = true := beq_iff_eq.2 he
        clear he
        go_wp2
        go_ret
        exact ⟨ret_bool hr.symm, rfl⟩
      · have d : (f k == x) = false := beq_eq_false_iff_ne.2 he
        have hst : Hid (∀ j, j < k + 1 → f j ≠ x) := fun j hj => by
          by_cases e : j = k
          · subst e; exact he
          · exact hE j (by omega)
        clear he
        go_wp2
        go_roundw
        case rel => exact ⟨k + 1, by omega, by go_num, hst, trivial⟩
        case measure => simp [intOf]; omega
    · obtain rfl : k = n := by omega
      have hr := hide (show v = false by rw [V.out]; exact decide_eq_false (fun ⟨t, ht, e⟩ => hE.out t ht e))
      go_wp2
      go_ret
      exact ⟨ret_bool hr.symm, rfl⟩
/-- One path of a slice whose row begins its block. -/
theorem psRn_at0 {w : World} {B g m : Nat} {D : Nat → PD} (h : PsRn w B (some ⟨g, 0, none⟩) m D) {i : Nat} (hi : i < m) : ∃ a1 c1 a2 c2 m1 f1 m2 f2, D i = ⟨m1, f1, m2, f2⟩ ∧ w.cell? ⟨g, i * 2, none⟩ = some (.slice a1 m1 c1) ∧ w.cell? ⟨g, i * 2 + 1, none⟩ = some (.slice a2 m2 c2) ∧ Rn w B a1 m1 f1 ∧ Rn w B a2 m2 f2 := by
  obtain ⟨b, off, a1, c1, a2, c2, m1, f1, m2, f2, e, hb, hD, x0, x1, r1, r2⟩ := h.at_ hi
  simp only [Option.some.injEq, Addr.mk.injEq, and_true] at e
  obtain ⟨rfl, rfl⟩ := e
  rw [Nat.zero_add] at x0 x1
  exact ⟨a1, c1, a2, c2, m1, f1, m2, f2, hD, x0, x1, r1, r2⟩
/-- The order of a section that is one. -/
def OrdOut (w : World) (F : Nat → Int) (m : Nat) (e : Ending) (w' : World) : Prop :=
  ∃ g c : Nat, e = .returned (.tuple #[.slice (some ⟨g, 0, none⟩) m c, .bool true]) ∧ (w.heap.size ≤ g ∧ g < w'.heap.size) ∧ Ow w' g (some ⟨g, 0, none⟩) m (fun i => ((ordAt F m i : Nat) : Int)) ∧ Below w.heap.size w w'
theorem IdxRes.ord {w : World} {F : Nat → Int} {m : Nat} {e : Ending} {w' : World} (h : IdxRes w (ordN F m) true e w') : OrdOut w F m e w' := by
  obtain ⟨g, c, he, hg, ho, hb⟩ := h
  rw [ord_len] at he ho
  exact ⟨g, c, he, hg, ho, hb⟩
set_option maxHeartbeats 4000000 in
theorem y_FnPathsOrder (a0 : Option Addr) (len0 cap0 : Nat) (w : World) (hA : BytesAt w.heap.size w a0 len0) (hl : len0 ≤ 1048576) (hc : len0 ≤ cap0) (hm : cap0 ≤ 9223372036854775807) :
    Calls Try.prog 12 #[.slice a0 len0 cap0] w fun e w' => e = .returned (.bool true) ∧ Below w.heap.size w w' := by
  have hAH := Lib.hid hA
  have hd0 : decide ((1048576 : Int) < (len0 : Int)) = false := by simp; omega
  clear hA
  go_enter Try.func12, Try.ntmps12
  go_wp2_with fail
  refine (d_DrawPathsOrder a0 len0 cap0 w hAH.out hl hc hm).mono ?_
  rintro e wb ⟨n, g, m, c, D, k, rfl, hn, hm10, hD, hp, hb⟩
  clear hc hm hAH hl hd0
  have HB := Lib.hid hb
  have P0 := Lib.hid hp
  clear hb hp
  cases hv : hasS n D m k
  · have VV := Lib.hid hv
    clear hv
    go_wp2_with fail
    refine (iOrd_no _ m c D n k _ P0.out (by omega) VV.out).mono ?_
    rintro e w1 ⟨g1, c1, rfl, hg1, ho1, hb1⟩
    have P1 := Lib.hid (P0.out.topb hb1)
    clear ho1
    go_wp2_with fail
    refine (sOrd_no _ m c D n k _ P1.out (by omega) VV.out).mono ?_
    rintro e w2 ⟨g2, c2, rfl, hg2, ho2, hb2⟩
    have hb2 := bl hb1 (Nat.le_refl _) hb2
    clear ho2 P1
    go_wp2_with fail
    refine (sameI_b _ _ 0 _ _ (fun _ => 0) _ (Rn.nil _ _ _ _) (Rn.nil _ _ _ _) (by omega)).mono ?_
    rintro e w3 ⟨rfl, hb3⟩
    have hb3 := bl hb2 (Nat.le_refl _) hb3
    go_wp2_with fail
    refine (sameI_b _ _ 0 _ _ (fun _ => 0) _ (Rn.nil _ _ _ _) (Rn.nil _ _ _ _) (by omega)).mono ?_
    rintro e w4 ⟨rfl, hb4⟩
    have hb4 := bl hb3 (Nat.le_refl _) hb4
    clear hb1 hb2 hb3
    go_wp2
    go_ret
    exact ⟨rfl, bl HB.out (Nat.le_refl _) hb4⟩
  obtain ⟨hpv, hk0, hkn⟩ := hasS_iff.1 hv
  obtain ⟨j, rfl⟩ := Int.eq_ofNat_of_zero_le hk0
  have VV := Lib.hid hv
  have PV := Lib.hid hpv
  have SE := Lib.hid (sec_of hpv hkn)
  obtain ⟨F, hF⟩ : ∃ F : Nat → Int, (fun i => (D i).f1 j) = F := ⟨_, rfl⟩
  obtain ⟨G, hG⟩ : ∃ G : Nat → Int, (fun i => (D i).f2 j) = G := ⟨_, rfl⟩
  have HF := Lib.hid hF
  have HG := Lib.hid hG
  rw [hF, hG] at SE
  clear hv hpv
  have OI : Hid (∀ (W : World) (A : Option Addr) (c : Nat), PsRn W W.heap.size A m D → Calls Try.prog 17 #[.int .i64 (n : Int), .slice A m c, .int .i64 (j : Int)] W (OrdOut W F m)) := fun W A c h => by
    have := iOrd_yes A m c D n j W h VV.out
    rw [hF] at this
    exact this.mono fun _ _ h => h.ord
  have SO : Hid (∀ (W : World) (A : Option Addr) (c : Nat), PsRn W W.heap.size A m D → Calls Try.prog 46 #[.int .i64 (n : Int), .slice A m c, .int .i64 (j : Int)] W (OrdOut W F m)) := fun W A c h => by
    have := sOrd_yes A m c D n j W h VV.out
    rw [hF] at this
    exact this.mono fun _ _ h => h.ord
  clear hF hG
  go_wp2_with fail
  refine (OI.out _ _ _ P0.out).mono ?_
  rintro e w1 ⟨g1, c1, rfl, hg1, ho1, hb1⟩
  have P1 := Lib.hid (P0.out.topb hb1)
  have O1 := Lib.hid ho1
  clear ho1
  go_wp2_with fail
  refine (SO.out _ _ _ P1.out).mono ?_
  rintro e w2 ⟨g2, c2, rfl, hg2, ho2, hb2⟩
  have P2 := Lib.hid (P1.out.topb hb2)
  have O2 := Lib.hid (O1.out.call hb2)
  have N1 := Lib.hid ((O1.out.call hb2).rn (B := w2.heap.size) (by have := hb2.size; omega))
  have N2 := Lib.hid (ho2.rn (B := w2.heap.size) hg2.2)
  have hbw := bl hb1 (Nat.le_refl _) hb2
  clear hb1 hb2 ho2 O1 P1 P0 OI SO
  have hm8 : m ≤ 8 := (pathsV_iff.1 PV.out).2.2.1
  go_wp2_with fail
  refine (sameI_b _ _ m _ _ _ _ N1.out N2.out (by omega)).mono ?_
  rintro e w3 ⟨rfl, hb3⟩
  have P3 := Lib.hid (P2.out.topb hb3)
  have O3 := Lib.hid (O2.out.call hb3)
  have HB3 := Lib.hid (bl (bl HB.out (Nat.le_refl _) hbw) (Nat.le_refl _) hb3)
  clear hb3 N1 N2 P2 O2 hbw HB
  go_wp2_with fail
  go_loopw [10] (fun i wr => ∃ t : Nat, t ≤ m ∧ i = .int .i64 t ∧ Hid (∃ q, wr = w3.drewN q)) (fun i _ => m - (intOf i).toNat)
  case atStart => exact ⟨0, Nat.zero_le _, rfl, 0, rfl⟩
  case round =>
    obtain ⟨t, ht, rfl, hq⟩ := hrel
    have P4 : Hid (PsRn wr wr.heap.size (some ⟨g, 0, none⟩) m D) := by obtain ⟨q, rfl⟩ := hq.out; exact P3.out.topq q
    have O4 : Hid (Ow wr g1 (some ⟨g1, 0, none⟩) m fun i => ((ordAt F m i : Nat) : Int)) := by obtain ⟨q, rfl⟩ := hq.out; exact O3.out.drewN q
    by_cases hlt : t < m
    · obtain ⟨off0, e0, hgb, hfz, hcc⟩ := O4.out (by omega)
      have e1 := slice_off e0
      subst e1
      have RN := Lib.hid (O4.out.rn hgb)
      have HV : Hid (true = hasV m (fun i => ((ordAt F m i : Nat) : Int)) (t : Int)) := by
        obtain ⟨p, hp, e⟩ := ordAt_ex F hlt
        exact (decide_eq_true ⟨p, hp, by show ((ordAt F m p : Nat) : Int) = _; rw [e]⟩).symm
      by_cases ht0 : t = 0
      · subst ht0
        have z0 : decide ((0 : Int) < ((0 : Nat) : Int)) = false := rfl
        have z1 : decide ((0 : Int) < (0 : Int)) = false := rfl
        clear hcc hfz e0
        go_wp2
        go_quiet ((go_at_call 47; exact Calls.quiet_of_same (hasI true _ m _ _ _ _ (RN.out.topq _) (by omega) HV.out)))
        go_wp2
        go_roundw
        case rel => exact ⟨1, by omega, rfl, by obtain ⟨q, rfl⟩ := hq.out; exact ⟨_, World.drewN_drewN _ _ _⟩⟩
        case measure => simp [intOf]; omega
      · obtain ⟨s, rfl⟩ : ∃ s, t = s + 1 := ⟨t - 1, by omega⟩
        have y0 := hcc s (by omega)
        have y1 := hcc (s + 1) hlt
        simp only [Nat.zero_add] at y0 y1
        have hst := SE.out.step (p := s) (q := s + 1) (by omega) hlt
        obtain ⟨x, hx⟩ : ∃ x, ordAt F m (s + 1) = x := ⟨_, rfl⟩
        obtain ⟨z, hz⟩ : ∃ z, ordAt F m s = z := ⟨_, rfl⟩
        have hxm : x < m := by have := ordAt_lt (f := F) hlt; omega
        have hzm : z < m := by have := ordAt_lt (f := F) (show s < m by omega); omega
        rw [hx] at y1
        rw [hz] at y0
        rw [hx, hz] at hst
        obtain ⟨a1, k1, a2, k2, n1, f1, n2, f2, hD1, x0, x1, r1, r2⟩ := psRn_at0 P4.out hxm
        obtain ⟨a1', k1', a2', k2', n1', f1', n2', f2', hD', x0', x1', r1', r2'⟩ := psRn_at0 P4.out hzm
        have atx := pathsV_at PV.out hxm
        have atz := pathsV_at PV.out hzm
        have hFx : F x = f1 j := by rw [← HF.out]; simp only [hD1]
        have hGz : G z = f2' j := by rw [← HG.out]; simp only [hD']
        rw [hD1] at atx
        rw [hD'] at atz
        obtain ⟨l1, -, -⟩ := atx
        obtain ⟨-, l2, -⟩ := atz
        simp only at l1 l2
        obtain ⟨s1, o1, rfl, hd1, hc1⟩ := r1 (by omega)
        obtain ⟨s2, o2, rfl, hd2, hc2⟩ := r2' (by omega)
        have v1 := hc1 j (by omega)
        have v2 := hc2 j (by omega)
        rw [hFx, hGz] at hst
        generalize f1 j = ux at *
        generalize f2' j = uz at *
        have dl : decide (ux < uz) = false := decide_eq_false (by omega)
        have z0 : decide ((0 : Int) < (s : Int) + 1) = true := decide_eq_true (by omega)
        have z1 : (0 : Int) < (s : Int) + 1 := by omega
        have y4 : IntKind.i64.wrap ((s : Int) + 1 - 1) = (s : Int) := by rw [show (s : Int) + 1 - 1 = s by omega]; exact IntWalk.i64_in _ (by omega)
        have y5 : IntKind.i64.wrap (s : Int) = (s : Int) := IntWalk.i64_in _ (by omega)
        have j0 : (0 : Int) ≤ (s : Int) := by omega
        have j1 : (s : Int) < (m : Int) := by omega
        have j2 : (0 : Int) ≤ (s : Int) + 1 := by omega
        have j3 : (s : Int) + 1 < (m : Int) := by omega
        have j4 : (x : Int) < (m : Int) := by omega
        have j5 : (z : Int) < (m : Int) := by omega
        have j7 : (j : Int) < (n1 : Int) := by omega
        have j8 : (j : Int) < (n2' : Int) := by omega
        have j9 : (0 : Int) ≤ (x : Int) := by omega
        have j10 : (0 : Int) ≤ (z : Int) := by omega
        have j11 : (0 : Int) ≤ (j : Int) := by omega
        have HV := Lib.hid (show true = hasV m (fun i => ((ordAt F m i : Nat) : Int)) ((s : Int) + 1) by have := HV.out; simpa using this)
        clear hcc hfz e0 hc1 hc2 hx hz hFx hGz hD1 hD' r1 r2 r1' r2' x1 x0' l1 l2 hst
        go_wp2
        go_quiet ((go_at_call 47; exact Calls.quiet_of_same (hasI true _ m _ _ _ _ (RN.out.topq _) (by omega) HV.out)))
        clear y4 y5
        go_wp2
        go_roundw
        case rel => exact ⟨s + 1 + 1, by omega, by go_num, by obtain ⟨q, rfl⟩ := hq.out; exact ⟨_, World.drewN_drewN _ _ _⟩⟩
        case measure => simp [intOf]; omega
    · obtain rfl : t = m := by omega
      have HX : Hid (Below w3.heap.size w3 wr) := by obtain ⟨q, rfl⟩ := hq.out; exact dn_below _ _ _
      go_wp2
      go_ret
      exact ⟨by simp, bl HB3.out (Nat.le_refl _) HX.out⟩
theorem w_FnPathsOrder (a0 : Option Addr) (len0 cap0 : Nat) (z0 : List Int) (w : World) (w0 : IsRow .u8 w a0 len0 cap0 z0) :
    Calls Try.prog 12 #[.slice a0 len0 cap0] w fun e w' => e = .returned (.bool true) ∧ Below w.heap.size w w' := by
  obtain ⟨hA, hc, hm⟩ := w0.bytes
  by_cases hs0 : 1048576 < len0
  · have hd0 : decide ((1048576 : Int) < (len0 : Int)) = true := by simp; omega
    clear w0 hA
    go_enter Try.func12, Try.ntmps12
    go_wp2
    go_ret
    exact ⟨rfl, Below.refl _ _⟩
  · exact y_FnPathsOrder a0 len0 cap0 w hA (by omega) hc hm
end Go.Proofs.Ytjppkcfbhhjniaa
