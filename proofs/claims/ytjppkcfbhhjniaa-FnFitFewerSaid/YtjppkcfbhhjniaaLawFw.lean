/-
  The walk of FnFitFewer.
-/
import Derived.Test.YtjppkcfbhhjniaaLawFi
import Derived.Test.YtjppkcfbhhjniaaVx
namespace Go.Proofs.Ytjppkcfbhhjniaa
open Go.RowKit Go.Deep
set_option linter.unusedVariables false

set_option maxRecDepth 100000 in
set_option maxHeartbeats 8000000 in
theorem y_FnFitFewer (a0 : Option Addr) (len0 cap0 : Nat) (a1 : Option Addr) (len1 cap1 : Nat) (w : World) (hA : BytesAt w.heap.size w a0 len0) (hl : len0 ≤ 1048576) (hc : len0 ≤ cap0) (hm : cap0 ≤ 9223372036854775807) (hl1 : len1 ≤ 1048576) :
    Calls Try.prog 11 #[.slice a0 len0 cap0, .slice a1 len1 cap1] w fun e w' => e = .returned (.bool true) ∧ Below w.heap.size w w' := by
  have hAH := Lib.hid hA
  have hd0 : decide ((1048576 : Int) < (len0 : Int)) = false := by simp; omega
  have hd1 : decide ((1048576 : Int) < (len1 : Int)) = false := by simp; omega
  clear hA
  go_enter Try.func11, Try.ntmps11
  go_wp2_with fail
  refine (d_DrawPathsFit a0 len0 cap0 w hAH.out hl hc hm).mono ?_
  rintro e wb ⟨n, g, m, c, D, frm, R, r, d, f, rfl, hr5, hfr, hRn, hn, hm10, hD, hp, hb⟩
  clear hc hm hAH hl hd0 hd1
  have HB := Lib.hid hb
  have P0 := Lib.hid hp
  have R0 := Lib.hid hRn
  clear hb hp hRn
  by_cases hok : pathsV n D m = true ∧ runsV n r f ∧ 0 ≤ frm ∧ okTo D m f frm r
  rotate_left
  · skip
    have I := Lib.hid (fun (W : World) (A : Option Addr) (c : Nat) (R : Option Addr) (d : Nat) (p : PsRn W W.heap.size A m D) (q : Rn W W.heap.size R r f) => fitNo_i (n := (n : Int)) (by omega) (by omega) hok W A c R d p q)
    have S := Lib.hid (fun (W : World) (A : Option Addr) (c : Nat) (R : Option Addr) (d : Nat) (p : PsRn W W.heap.size A m D) (q : Rn W W.heap.size R r f) => fitNo_s (n := (n : Int)) (by omega) (by omega) hok W A c R d p q)
    clear hok
    go_wp2_with fail
    refine (I.out _ _ _ _ _ P0.out R0.out).mono ?_
    rintro e w2 ⟨rfl, hn2⟩
    have P2 := Lib.hid ((P0.out.topb hn2).top (.cells #[.slice none 0 0, .slice none 0 0] 31))
    have R2 := Lib.hid ((R0.out.topb hn2).top (.cells #[.slice none 0 0, .slice none 0 0] 31))
    have hb2 := bl HB.out (Nat.le_refl _) hn2
    have hy := Bx.new w2 [.slice none 0 0, .slice none 0 0] 31
    clear hn2 P0 R0 I
    go_wp2_with fail
    refine (S.out _ _ _ _ _ P2.out R2.out).mono ?_
    rintro e w3 ⟨rfl, hn3⟩
    have hy := hy.call hn3
    have hb3 : Below w.heap.size w w3 := bl (show Below w.heap.size w (w2.alloc (.cells #[.slice none 0 0, .slice none 0 0] 31)) by have := hb2.size; go_grown) (Nat.le_refl _) hn3
    have d0 := hy.cell (i := 0) (by simp)
    have d1 := hy.cell (i := 1) (by simp)
    have ly := hy.lt
    simp only [List.getElem_cons_zero, List.getElem_cons_succ] at d0 d1
    clear hn3 P2 R2 hb2 S
    go_wp2_with fail
    refine (samePath_self none none none none 0 0 0 0 0 0 (fun _ => 0) (fun _ => 0) _ (Rn.nil _ _ _ _) (Rn.nil _ _ _ _) (Rn.nil _ _ _ _) (Rn.nil _ _ _ _) (by omega) (by omega)).mono ?_
    rintro e w4 ⟨rfl, hn4⟩
    have hy := (hy.alloc (.cells #[.slice none 0 0, .slice none 0 0] 31)).call hn4
    have hz := (Bx.new w3 [.slice none 0 0, .slice none 0 0] 31).call hn4
    have hb4 : Below w.heap.size w w4 := bl (show Below w.heap.size w (w3.alloc (.cells #[.slice none 0 0, .slice none 0 0] 31)) by have := hb3.size; go_grown) (Nat.le_refl _) hn4
    have d0 := hy.cell (i := 0) (by simp)
    have d1 := hy.cell (i := 1) (by simp)
    have e0 := hz.cell (i := 0) (by simp)
    have e1 := hz.cell (i := 1) (by simp)
    simp only [List.getElem_cons_zero, List.getElem_cons_succ] at d0 d1 e0 e1
    clear hn4 hb3 hy hz
    go_wp2_with fail
    refine (samePath_self none none none none 0 0 0 0 0 0 (fun _ => 0) (fun _ => 0) _ (Rn.nil _ _ _ _) (Rn.nil _ _ _ _) (Rn.nil _ _ _ _) (Rn.nil _ _ _ _) (by omega) (by omega)).mono ?_
    rintro e w5 ⟨rfl, hn5⟩
    have hb5 := bl hb4 (Nat.le_refl _) hn5
    clear hn5 hb4 d0 d1 e0 e1
    go_wp2
    go_ret
    exact ⟨rfl, hb5⟩
  obtain ⟨h1, h2, h3, h4⟩ := hok
  obtain rfl : r = n := by have := h2.2.1; omega
  have hm8 : m ≤ 8 := (pathsV_iff.1 h1).2.2.1
  have hr5 : 1 ≤ r ∧ r ≤ 5 := by have := h2.1; omega
  have hFV := fitP_valid h1 hr5 h2.2.2 h3 h4
  have PV := Lib.hid h1
  have RV := Lib.hid h2
  have OK := Lib.hid h4
  have I := Lib.hid (fun (W : World) (A : Option Addr) (c : Nat) (R : Option Addr) (d : Nat) (p : PsRn W W.heap.size A m D) (q : Rn W W.heap.size R r f) => fitYes_i h1 h2 h3 h4 W A c R d p q)
  have S := Lib.hid (fun (W : World) (A : Option Addr) (c : Nat) (R : Option Addr) (d : Nat) (p : PsRn W W.heap.size A m D) (q : Rn W W.heap.size R r f) => fitYes_s h1 h2 h3 h4 W A c R d p q)
  have VP := Lib.hid hFV
  obtain ⟨rb, ro, rfl, hrb, hrc⟩ := R0.out (by omega)
  have H0 : Hold wb [psA wb.heap.size (some ⟨g, 0, none⟩) m D, rnA wb.heap.size (some ⟨rb, ro, none⟩) r f] := ((Hold.nil wb).rn (Nat.le_refl _) R0.out).ps (Nat.le_refl _) P0.out
  have B0 : Below wb.heap.size wb wb := Below.refl _ _
  clear h1 h2 h4 hFV hrc P0 R0
  go_wp2_with fail
  refine (I.out _ _ _ _ _ H0.psup H0.tl.rnup).mono ?_
  rintro e w1 ⟨aG, cG, bG, dG, rfl, ho, hn⟩
  have H1 := (H0.call hn).op (Nat.le_refl _) ho
  have B1 : Below wb.heap.size wb w1 := bl B0 (Nat.le_refl _) hn
  have s1 := hn.size
  clear hn ho H0 B0
  go_wp2_with fail
  refine (S.out _ _ _ _ _ (H1.tl.psup.top _) (H1.tl.tl.rnup.top _)).mono ?_
  rintro e w2 ⟨aW, cW, bW, dW, rfl, ho, hn⟩
  have H2 := (H1.new [.slice aG r cG, .slice bG r dG] 31).call hn
  have B2 : Below wb.heap.size wb w2 := bl (show Below wb.heap.size wb (w1.alloc (.cells #[.slice aG r cG, .slice bG r dG] 31)) by go_grown) (by first | (simp; done) | (simp; omega)) hn
  have s2 : w1.heap.size + 1 ≤ w2.heap.size := by have := hn.size; simpa using this
  (try simp only [World.size_alloc] at ho)
  have H2 := H2.op (Nat.le_refl _) ho
  clear hn ho H1 B1 I S
  obtain ⟨xg2, yg2⟩ := H2.tl.bx2
  have lg2 := H2.tl.bxlt
  go_wp2_with fail
  refine (samePath_self _ _ _ _ _ _ _ _ _ _ _ _ _ (H2.tl.tl.op1.top _) (H2.tl.tl.op2.top _) (H2.op1.top _) (H2.op2.top _) (by omega) (by omega)).mono ?_
  rintro e w3 ⟨rfl, hn⟩
  have H3 := (H2.new [.slice aW r cW, .slice bW r dW] 31).call hn
  have B3 : Below wb.heap.size wb w3 := bl (show Below wb.heap.size wb (w2.alloc (.cells #[.slice aW r cW, .slice bW r dW] 31)) by go_grown) (by first | (simp; done) | (simp; omega)) hn
  have s3 : w2.heap.size + 1 ≤ w3.heap.size := by have := hn.size; simpa using this
  clear hn H2 B2 xg2 yg2 lg2
  obtain ⟨xg3, yg3⟩ := H3.tl.tl.bx2
  have lg3 := H3.tl.tl.bxlt
  have P3 := Lib.hid H3.tl.tl.tl.tl.psup
  obtain ⟨b1, b2, hh1, hh2, hne, o1, o2⟩ := H3.tl.tl.tl.opP
  obtain ⟨of1, Eq1, lb1, -, cc1⟩ := o1 (by omega)
  obtain ⟨of2, Eq2, lb2, -, cc2⟩ := o2 (by omega)
  obtain ⟨rb', ro', Eq3, lrb, crb⟩ := H3.tl.tl.tl.tl.tl.rnup (by omega)
  simp only [Option.some.injEq, Addr.mk.injEq, and_true] at Eq3
  obtain ⟨rfl, rfl⟩ := Eq3
  subst Eq1
  subst Eq2
  have K3 : Hid (FitC w3 w1.heap.size r b1 of1 cG b2 of2 dG rb ro (inT D m f frm) (fun k => rdy D m f frm (k + 1)) f) := ⟨⟨lg3, lb1, lb2, lrb⟩, ⟨xg3, yg3⟩, cc1, cc2, crb⟩
  have HB3 := Lib.hid (bl HB.out (Nat.le_refl _) B3)
  clear B3 H3 o1 o2 cc1 cc2 crb HB hh1 hh2
  obtain ⟨FI, hFI⟩ : ∃ F, inT D m f frm = F := ⟨_, rfl⟩
  obtain ⟨FO, hFO⟩ : ∃ F, (fun k => rdy D m f frm (k + 1)) = F := ⟨_, rfl⟩
  obtain ⟨AT, hAT⟩ : ∃ F, rdy D m f frm = F := ⟨_, rfl⟩
  have hA0 : AT 0 = frm := by rw [← hAT]; rfl
  have hA1 : ∀ k, AT (k + 1) = FI k + f k := fun k => by rw [← hAT, ← hFI]; exact rdy_succ _ _ _ _ _
  have hO1 : ∀ k, FO k = FI k + f k := fun k => by rw [← hFO, ← hFI]; exact rdy_succ _ _ _ _ _
  have hbd : ∀ k, k < r → 0 ≤ AT k ∧ AT k ≤ FI k ∧ FI k + f k ≤ 2000 ∧ 1 ≤ f k ∧ f k ≤ 100 := fun k hk => by
    have z1 := inT_bd (OK.out k hk)
    have z2 := RV.out.2.2 k hk
    have z3 := rdy_bd (j := k) (fun k' hk' => OK.out k' (by omega)) h3 (fun k' hk' => (RV.out.2.2 k' (by omega)).1)
    rw [hAT] at z1 z3
    rw [hFI] at z1
    omega
  rw [hFI, hFO] at K3
  have VP : Hid (pathV r ⟨r, FI, r, FO⟩ = true ∧ ∀ i, i < m → clashL r (D i) ⟨r, FI, r, FO⟩ = []) := by have := VP.out; unfold fitP at this; rw [hFI, hFO] at this; exact this
  have AD := Lib.hid (fun (W : World) (A : Option Addr) (c : Nat) (R : Option Addr) (d : Nat) (p : PsRn W W.heap.size A m D) (q : Rn W W.heap.size R r f) => iAdd_go A m c D R r d r frm _ _ W p PV.out ⟨by omega, hr5.2⟩ (fitYes_i PV.out RV.out h3 OK.out W A c R d p q))
  rw [hFI, hFO] at AD
  have HFI := Lib.hid hFI
  clear hAT hFI hFO
  go_wp2_with fail
  refine (AD.out _ _ _ _ _ P3.out K3.out.rn.2.2).mono ?_
  rintro e w4 (⟨h8, g4, c4, rfl, hgr, hn4⟩ | ⟨h8, g4, c4, rfl, hgr, hn4⟩)
  · have P4 := hgr.rn (B := w4.heap.size) (Nat.le_refl _)
    have K4 := Lib.hid (K3.out.call hn4)
    have PZ4 := Lib.hid (P3.out.topb hn4)
    have HB4 := Lib.hid (bl HB3.out (Nat.le_refl _) hn4)
    obtain ⟨⟨l1, l2, l3, l4⟩, ⟨y0, y1⟩, -, -, -⟩ := K4.out
    obtain ⟨R1, R2, -⟩ := K4.out.rn
    have R1 := Lib.hid R1
    have R2 := Lib.hid R2
    obtain ⟨aa1, k1, aa2, k2, n1, f1, n2, f2, hD1, x0, x1, r1, r2⟩ := psRn_at0 P4 (show m < m + 1 by omega)
    have lg4 : g4 < w4.heap.size := by obtain ⟨b, off, e, hbb, _⟩ := P4 (by omega); simp only [Option.some.injEq, Addr.mk.injEq, and_true] at e; omega
    rw [addD_at] at hD1
    injection hD1 with e1 e2 e3 e4
    subst e1 e2 e3 e4
    have S1 := Lib.hid r1
    have S2 := Lib.hid r2
    have i0 : (0 : Int) ≤ (m : Int) := by omega
    have i1 : (m : Int) < (m : Int) + 1 := by omega
    have i2 : m < m + 1 := by omega
    clear hgr hn4 P4 r1 r2 K3 P3 HB3 AD
    go_wp2_with fail
    first | (go_region_held (fun V => V.cell? ⟨g4, m * 2, none⟩ = some (.slice aa1 r k1) ∧ V.cell? ⟨g4, m * 2 + 1, none⟩ = some (.slice aa2 r k2) ∧ V.cell? ⟨w1.heap.size, 0, none⟩ = some (.slice (some ⟨b1, of1, none⟩) r cG) ∧ V.cell? ⟨w1.heap.size, 1, none⟩ = some (.slice (some ⟨b2, of2, none⟩) r dG)) (go_keep)
      (first | (go_at_call 31; refine (samePath_self aa1 aa2 _ _ r k1 r k2 cG dG FI FO _ S1.out.topd S2.out.topd R1.out.topd R2.out.topd (by omega) (by omega)).mono ?_; rintro e w5 ⟨rfl, hn5⟩; have hn5 := undrew hn5; have z0 := (hn5.cell (p := ⟨g4, m * 2, none⟩) lg4).trans x0; have z1 := (hn5.cell (p := ⟨g4, m * 2 + 1, none⟩) lg4).trans x1; have z2 := (hn5.cell (p := ⟨w1.heap.size, 0, none⟩) l1).trans y0; have z3 := (hn5.cell (p := ⟨w1.heap.size, 1, none⟩) l1).trans y1))) | fail
    have KZ := Lib.hid (K4.out.call hn5)
    have PZ := Lib.hid (PZ4.out.topb hn5)
    have HBZ := Lib.hid (bl HB4.out (Nat.le_refl _) hn5)
    clear hn5 z0 z1 z2 z3 x0 x1 y0 y1 K4 PZ4 HB4 R1 R2 S1 S2 i0 i1 i2 lg4 l1 l2 l3 l4
    obtain ⟨wz, rfl⟩ : ∃ wz : World, wz = w5 := ⟨_, rfl⟩
    by_cases h0 : m = 0
    · have d0 : ((m : Int) == 0) = true := beq_iff_eq.2 (by omega)
      clear h0
      go_wp2
      go_ret
      exact ⟨rfl, HBZ.out⟩
    have d0 : ((m : Int) == 0) = false := beq_eq_false_iff_ne.2 (by omega)
    obtain ⟨tt, htt⟩ : ∃ tt, len1 % m = tt := ⟨_, rfl⟩
    have htm : tt < m := by rw [← htt]; exact Nat.mod_lt _ (by omega)
    have hx1 : (len1 : Int) % (m : Int) = (tt : Int) := by rw [← htt]; exact (Int.natCast_emod len1 m).symm
    have hx2 : Int.tmod (len1 : Int) (m : Int) = (tt : Int) := by rw [Int.tmod_eq_emod_of_nonneg (by omega)]; exact hx1
    have PL := Lib.hid (PZ.out.less (show tt ≤ m by omega))
    obtain ⟨o2, ho2, PR⟩ : ∃ o2, (if c = tt + 1 then some (⟨g, 0, none⟩ : Addr) else some ⟨g, (tt + 1) * 2, none⟩) = some ⟨g, o2, none⟩ ∧ Hid (PsRn wz wz.heap.size (some ⟨g, o2, none⟩) (m - (tt + 1)) (fun i => D (tt + 1 + i))) := by
      by_cases hct : c = tt + 1
      · exact ⟨0, if_pos hct, fun hn => absurd hn (by omega)⟩
      · refine ⟨(tt + 1) * 2, if_neg hct, fun hn => ?_⟩
        obtain ⟨b, off, e, hb, hc⟩ := PZ.out (by omega)
        simp only [Option.some.injEq, Addr.mk.injEq, and_true] at e
        obtain ⟨rfl, rfl⟩ := e
        refine ⟨g, (tt + 1) * 2, rfl, hb, fun i hi => ?_⟩
        have := hc (tt + 1 + i) (by omega)
        rwa [show 0 + (tt + 1 + i) * 2 = (tt + 1) * 2 + i * 2 by omega] at this
    have HO2 := Lib.hid ho2
    clear ho2
    obtain ⟨xs1, vc1, cc1⟩ := PL.out.row
    obtain ⟨xs2, vc2, cc2⟩ := PR.out.row
    have VC1 := Lib.hid vc1
    have VC2 := Lib.hid vc2
    have CC1 := Lib.hid cc1
    have CC2 := Lib.hid cc2
    have one1 := Lib.hid vc1.one
    have one2' := Lib.hid vc2.one
    have hl1 := vc1.1
    have hl2 := vc2.1
    have j0 : (0 : Int) ≤ (tt : Int) := by omega
    have j1 : (tt : Int) ≤ (m : Int) := by omega
    have j2 : (tt : Int) + 1 ≤ (m : Int) := by omega
    have j3 : (0 : Int) ≤ (tt : Int) + 1 := by omega
    have j4 : (tt : Int) ≤ (c : Int) := by omega
    have j5 : (m : Int) ≤ (c : Int) := by omega
    have j6 : (tt : Int) + 1 ≤ (c : Int) := by omega
    have j7 : IntKind.i64.wrap ((tt : Int) + 1) = (tt : Int) + 1 := IntWalk.i64_in _ (by omega)
    have lgz : g < wz.heap.size := by obtain ⟨b, off, e, hbb, _⟩ := PZ.out (by omega); simp only [Option.some.injEq, Addr.mk.injEq, and_true] at e; omega
    obtain ⟨p0, pi0, pz0, pz1, pz2⟩ := info_parts pathInfo
    have hn0 : Below wz.heap.size wz (wz.alloc (.cells #[] 31)).drew := by go_grown
    have HN0 := Lib.hid hn0
    have O0 := Lib.hid (World.ownsRow_made (base := wz.heap.size) (size := 2) (e := 31) wz #[] 0 (Nat.le_refl _) (by unfold maxLen; omega) (by simp))
    have hcw := cutD_fewer (D := D) htm
    have hcv := cutD_valid PV.out htm
    have J := Lib.hid (fun (W : World) (A : Option Addr) (c : Nat) (R : Option Addr) (d : Nat) (p : PsRn W W.heap.size A (m - 1) (cutD D tt)) (q : Rn W W.heap.size R r f) => fitYes_i hcv RV.out h3 ((fit_fewer hcw (Int.le_refl frm) OK.out) r (Nat.le_refl _)).2 W A c R d p q)
    have hle := fit_in hcw (Int.le_refl frm) OK.out
    obtain ⟨FX, hFX⟩ : ∃ F, inT (cutD D tt) (m - 1) f frm = F := ⟨_, rfl⟩
    obtain ⟨FY, hFY⟩ : ∃ F, (fun k => rdy (cutD D tt) (m - 1) f frm (k + 1)) = F := ⟨_, rfl⟩
    rw [hFX, hFY] at J
    rw [hFX, HFI.out] at hle
    have HL := Lib.hid hle
    clear vc1 vc2 cc1 cc2 htt hn0 hcw hcv hle hFX hFY
    go_wp2_with fail
    go_region_law
      (first
        | ((refine step_app (by rfl) _ _ _ (by rfl) wz.heap.size 31 p0 (.agg #[.slice none 0 0, .slice none 0 0]) 2 48 Try.underlying23 pi0 pz0 pz1 pz2 (by rfl) (by omega) wz.heap.size 0 0 [] (by rfl) O0.out ⟨g, 0, none⟩ tt c xs1 (by rfl) hl1 (fun j u h => by have hu := CC1.out j u h; rw [add_at] at hu ⊢; exact (HN0.out.cell (p := ⟨g, 0 + j, none⟩) lgz).trans hu) one1.out (by unfold maxLen; omega) (by omega) HN0.out.size (wz.heap.size + 1) (by simp) tt (by omega) ?_); intro gA cA wA OA GA hgA1 hgA2; have NA : Below wz.heap.size wz wA := gb_bl HN0.out HN0.out.size (Nat.le_refl _) GA; have gsA := NA.size; clear GA)
        | ((refine step_app (by rfl) _ _ _ (by rfl) wz.heap.size 31 p0 (.agg #[.slice none 0 0, .slice none 0 0]) 2 48 Try.underlying23 pi0 pz0 pz1 pz2 (by rfl) (by omega) gA cA tt ([] ++ xs1) (by rfl) OA ⟨g, o2, none⟩ (m - (tt + 1)) (c - (tt + 1)) xs2 (by exact congrArg (fun z => Value.slice z (m - (tt + 1)) (c - (tt + 1))) HO2.out) hl2 (fun j u h => by have hu := CC2.out j u h; rw [add_at] at hu ⊢; exact (NA.cell (p := ⟨g, o2 + j, none⟩) lgz).trans hu) one2'.out (by unfold maxLen; omega) (by omega) gsA wA.heap.size rfl (m - 1) (by omega) ?_); intro gB cB wB OB GB hgB1 hgB2; have NB : Below wz.heap.size wz wB := gb_bl NA NA.size (by omega) GB; clear GB))
    rw [HO2.out]
    have eM : tt + (m - (tt + 1)) = m - 1 := by omega
    have OB2 : wB.ownsRow wz.heap.size 31 2 (.slice (some ⟨gB, 0, none⟩) (tt + (m - (tt + 1))) cB) (tt + (m - (tt + 1))) (xs1 ++ xs2) := by rw [eM]; simpa only [List.nil_append] using OB
    have V5 := (Vw.app VC1.out VC2.out OB2 (fun b hb => NB.block b hb)).congr (E := cutD D tt) fun i hi => by
      unfold cutD
      by_cases x : i < tt
      · rw [if_pos x, if_pos x]
      · rw [if_neg x, if_neg x, show tt + 1 + (i - tt) = i + 1 by omega]
    rw [eM] at V5
    have PB := Lib.hid V5.rn
    have KB := Lib.hid (KZ.out.call NB)
    have HBB := Lib.hid (bl HBZ.out (Nat.le_refl _) NB)
    clear NA NB OA OB OB2 V5 KZ HBZ PZ VC1 VC2 CC1 CC2 O0 HN0 PL PR eM hgA1 hgA2 hgB1 hgB2 one1 one2' hl1 hl2 gsA pi0 pz0 pz1 pz2
    go_wp2_with fail
    refine (J.out _ _ _ _ _ PB.out KB.out.rn.2.2).mono ?_
    rintro e w5 ⟨aL, cL, bL, dL, rfl, ho, hn⟩
    obtain ⟨b3, b4, hh3, hh4, hne2, o3, o4⟩ := ho
    obtain ⟨of3, Eq3, lb3, -, cc3⟩ := o3 (by omega)
    subst Eq3
    have hnx : Below w5.heap.size w5 (w5.alloc (.cells #[.slice (some ⟨b3, of3, none⟩) r cL, .slice bL r dL] 31)) := by go_grown
    have KV := Lib.hid ((KB.out.call hn).call hnx)
    have HBV := Lib.hid (bl (bl HBB.out (Nat.le_refl _) hn) (Nat.le_refl _) hnx)
    have CL3 : Hid (∀ j, j < r → (w5.alloc (.cells #[.slice (some ⟨b3, of3, none⟩) r cL, .slice bL r dL] 31)).cell? ⟨b3, of3 + j, none⟩ = some (.int .i64 (FX j))) := fun j hj => (hnx.cell (p := ⟨b3, of3 + j, none⟩) lb3).trans (cc3 j hj)
    have bx := Bx.new w5 [.slice (some ⟨b3, of3, none⟩) r cL, .slice bL r dL] 31
    have bx0 := bx.cell (i := 0) (by simp)
    simp only [List.getElem_cons_zero] at bx0
    have BX0 := Lib.hid bx0
    clear hn hnx o3 o4 cc3 bx bx0 J KB PB HBB hh3 hh4
    go_wp2_with fail
    generalize w5.alloc (.cells #[.slice (some ⟨b3, of3, none⟩) r cL, .slice bL r dL] 31) = V at *
    go_loopw [19] (fun i wr => ∃ j : Nat, j ≤ r ∧ i = .int .i64 j ∧ Hid (∃ q, wr = V.drewN q)) (fun i _ => (r - intOf i).toNat)
    case atStart => exact ⟨0, Nat.zero_le _, rfl, 0, rfl⟩
    case round =>
      obtain ⟨j, hj, rfl, hq⟩ := hrel
      by_cases hjlt : j < r
      · obtain ⟨⟨l1, l2, l3, l4⟩, ⟨y0, y1⟩, z1, z2, z3⟩ := KV.out
        have v1 := z1 j hjlt
        have v2 := CL3.out j hjlt
        have x0 := BX0.out
        have dl : decide (FI j < FX j) = false := decide_eq_false (by have := HL.out j hjlt; omega)
        have j0 : (0 : Int) ≤ (j : Int) := by omega
        have j1 : (j : Int) < (r : Int) := by omega
        obtain ⟨q, rfl⟩ := hq.out
        clear z1 z2 z3
        go_wp2_with fail
        go_quiet (fail)
        go_wp2
        go_roundw
        case rel => exact ⟨j + 1, by omega, by go_num, _, rfl⟩
        case measure => simp [intOf]; omega
      · obtain rfl : r = j := by omega
        obtain ⟨q, rfl⟩ := hq.out
        have HBZ := Lib.hid (below_dn HBV.out q)
        clear KV HBV hq CL3 BX0 HL
        go_wp2
        go_ret
        exact ⟨rfl, HBZ.out⟩
  · have K4 := Lib.hid (K3.out.call hn4)
    have PZ4 := Lib.hid (P3.out.topb hn4)
    have HB4 := Lib.hid (bl HB3.out (Nat.le_refl _) hn4)
    have d8 : decide ((m : Int) < 8) = false := decide_eq_false (by omega)
    have h8' : 8 ≤ m := by omega
    clear hgr hn4 K3 P3 HB3 AD h8
    go_wp2_with fail
    go_quiet (fail)
    have KZ := Lib.hid (K4.out.drewN nq)
    have PZ := Lib.hid (PZ4.out.topq nq)
    have HBZ := Lib.hid (below_dn HB4.out nq)
    clear K4 PZ4 HB4
    generalize w4.drewN nq = wz at *
    by_cases h0 : m = 0
    · have d0 : ((m : Int) == 0) = true := beq_iff_eq.2 (by omega)
      clear h0
      go_wp2
      go_ret
      exact ⟨rfl, HBZ.out⟩
    have d0 : ((m : Int) == 0) = false := beq_eq_false_iff_ne.2 (by omega)
    obtain ⟨tt, htt⟩ : ∃ tt, len1 % m = tt := ⟨_, rfl⟩
    have htm : tt < m := by rw [← htt]; exact Nat.mod_lt _ (by omega)
    have hx1 : (len1 : Int) % (m : Int) = (tt : Int) := by rw [← htt]; exact (Int.natCast_emod len1 m).symm
    have hx2 : Int.tmod (len1 : Int) (m : Int) = (tt : Int) := by rw [Int.tmod_eq_emod_of_nonneg (by omega)]; exact hx1
    have PL := Lib.hid (PZ.out.less (show tt ≤ m by omega))
    obtain ⟨o2, ho2, PR⟩ : ∃ o2, (if c = tt + 1 then some (⟨g, 0, none⟩ : Addr) else some ⟨g, (tt + 1) * 2, none⟩) = some ⟨g, o2, none⟩ ∧ Hid (PsRn wz wz.heap.size (some ⟨g, o2, none⟩) (m - (tt + 1)) (fun i => D (tt + 1 + i))) := by
      by_cases hct : c = tt + 1
      · exact ⟨0, if_pos hct, fun hn => absurd hn (by omega)⟩
      · refine ⟨(tt + 1) * 2, if_neg hct, fun hn => ?_⟩
        obtain ⟨b, off, e, hb, hc⟩ := PZ.out (by omega)
        simp only [Option.some.injEq, Addr.mk.injEq, and_true] at e
        obtain ⟨rfl, rfl⟩ := e
        refine ⟨g, (tt + 1) * 2, rfl, hb, fun i hi => ?_⟩
        have := hc (tt + 1 + i) (by omega)
        rwa [show 0 + (tt + 1 + i) * 2 = (tt + 1) * 2 + i * 2 by omega] at this
    have HO2 := Lib.hid ho2
    clear ho2
    obtain ⟨xs1, vc1, cc1⟩ := PL.out.row
    obtain ⟨xs2, vc2, cc2⟩ := PR.out.row
    have VC1 := Lib.hid vc1
    have VC2 := Lib.hid vc2
    have CC1 := Lib.hid cc1
    have CC2 := Lib.hid cc2
    have one1 := Lib.hid vc1.one
    have one2' := Lib.hid vc2.one
    have hl1 := vc1.1
    have hl2 := vc2.1
    have j0 : (0 : Int) ≤ (tt : Int) := by omega
    have j1 : (tt : Int) ≤ (m : Int) := by omega
    have j2 : (tt : Int) + 1 ≤ (m : Int) := by omega
    have j3 : (0 : Int) ≤ (tt : Int) + 1 := by omega
    have j4 : (tt : Int) ≤ (c : Int) := by omega
    have j5 : (m : Int) ≤ (c : Int) := by omega
    have j6 : (tt : Int) + 1 ≤ (c : Int) := by omega
    have j7 : IntKind.i64.wrap ((tt : Int) + 1) = (tt : Int) + 1 := IntWalk.i64_in _ (by omega)
    have lgz : g < wz.heap.size := by obtain ⟨b, off, e, hbb, _⟩ := PZ.out (by omega); simp only [Option.some.injEq, Addr.mk.injEq, and_true] at e; omega
    obtain ⟨p0, pi0, pz0, pz1, pz2⟩ := info_parts pathInfo
    have hn0 : Below wz.heap.size wz (wz.alloc (.cells #[] 31)).drew := by go_grown
    have HN0 := Lib.hid hn0
    have O0 := Lib.hid (World.ownsRow_made (base := wz.heap.size) (size := 2) (e := 31) wz #[] 0 (Nat.le_refl _) (by unfold maxLen; omega) (by simp))
    have hcw := cutD_fewer (D := D) htm
    have hcv := cutD_valid PV.out htm
    have J := Lib.hid (fun (W : World) (A : Option Addr) (c : Nat) (R : Option Addr) (d : Nat) (p : PsRn W W.heap.size A (m - 1) (cutD D tt)) (q : Rn W W.heap.size R r f) => fitYes_i hcv RV.out h3 ((fit_fewer hcw (Int.le_refl frm) OK.out) r (Nat.le_refl _)).2 W A c R d p q)
    have hle := fit_in hcw (Int.le_refl frm) OK.out
    obtain ⟨FX, hFX⟩ : ∃ F, inT (cutD D tt) (m - 1) f frm = F := ⟨_, rfl⟩
    obtain ⟨FY, hFY⟩ : ∃ F, (fun k => rdy (cutD D tt) (m - 1) f frm (k + 1)) = F := ⟨_, rfl⟩
    rw [hFX, hFY] at J
    rw [hFX, HFI.out] at hle
    have HL := Lib.hid hle
    clear vc1 vc2 cc1 cc2 htt hn0 hcw hcv hle hFX hFY
    go_wp2_with fail
    go_region_law
      (first
        | ((refine step_app (by rfl) _ _ _ (by rfl) wz.heap.size 31 p0 (.agg #[.slice none 0 0, .slice none 0 0]) 2 48 Try.underlying23 pi0 pz0 pz1 pz2 (by rfl) (by omega) wz.heap.size 0 0 [] (by rfl) O0.out ⟨g, 0, none⟩ tt c xs1 (by rfl) hl1 (fun j u h => by have hu := CC1.out j u h; rw [add_at] at hu ⊢; exact (HN0.out.cell (p := ⟨g, 0 + j, none⟩) lgz).trans hu) one1.out (by unfold maxLen; omega) (by omega) HN0.out.size (wz.heap.size + 1) (by simp) tt (by omega) ?_); intro gA cA wA OA GA hgA1 hgA2; have NA : Below wz.heap.size wz wA := gb_bl HN0.out HN0.out.size (Nat.le_refl _) GA; have gsA := NA.size; clear GA)
        | ((refine step_app (by rfl) _ _ _ (by rfl) wz.heap.size 31 p0 (.agg #[.slice none 0 0, .slice none 0 0]) 2 48 Try.underlying23 pi0 pz0 pz1 pz2 (by rfl) (by omega) gA cA tt ([] ++ xs1) (by rfl) OA ⟨g, o2, none⟩ (m - (tt + 1)) (c - (tt + 1)) xs2 (by exact congrArg (fun z => Value.slice z (m - (tt + 1)) (c - (tt + 1))) HO2.out) hl2 (fun j u h => by have hu := CC2.out j u h; rw [add_at] at hu ⊢; exact (NA.cell (p := ⟨g, o2 + j, none⟩) lgz).trans hu) one2'.out (by unfold maxLen; omega) (by omega) gsA wA.heap.size rfl (m - 1) (by omega) ?_); intro gB cB wB OB GB hgB1 hgB2; have NB : Below wz.heap.size wz wB := gb_bl NA NA.size (by omega) GB; clear GB))
    rw [HO2.out]
    have eM : tt + (m - (tt + 1)) = m - 1 := by omega
    have OB2 : wB.ownsRow wz.heap.size 31 2 (.slice (some ⟨gB, 0, none⟩) (tt + (m - (tt + 1))) cB) (tt + (m - (tt + 1))) (xs1 ++ xs2) := by rw [eM]; simpa only [List.nil_append] using OB
    have V5 := (Vw.app VC1.out VC2.out OB2 (fun b hb => NB.block b hb)).congr (E := cutD D tt) fun i hi => by
      unfold cutD
      by_cases x : i < tt
      · rw [if_pos x, if_pos x]
      · rw [if_neg x, if_neg x, show tt + 1 + (i - tt) = i + 1 by omega]
    rw [eM] at V5
    have PB := Lib.hid V5.rn
    have KB := Lib.hid (KZ.out.call NB)
    have HBB := Lib.hid (bl HBZ.out (Nat.le_refl _) NB)
    clear NA NB OA OB OB2 V5 KZ HBZ PZ VC1 VC2 CC1 CC2 O0 HN0 PL PR eM hgA1 hgA2 hgB1 hgB2 one1 one2' hl1 hl2 gsA pi0 pz0 pz1 pz2
    go_wp2_with fail
    refine (J.out _ _ _ _ _ PB.out KB.out.rn.2.2).mono ?_
    rintro e w5 ⟨aL, cL, bL, dL, rfl, ho, hn⟩
    obtain ⟨b3, b4, hh3, hh4, hne2, o3, o4⟩ := ho
    obtain ⟨of3, Eq3, lb3, -, cc3⟩ := o3 (by omega)
    subst Eq3
    have hnx : Below w5.heap.size w5 (w5.alloc (.cells #[.slice (some ⟨b3, of3, none⟩) r cL, .slice bL r dL] 31)) := by go_grown
    have KV := Lib.hid ((KB.out.call hn).call hnx)
    have HBV := Lib.hid (bl (bl HBB.out (Nat.le_refl _) hn) (Nat.le_refl _) hnx)
    have CL3 : Hid (∀ j, j < r → (w5.alloc (.cells #[.slice (some ⟨b3, of3, none⟩) r cL, .slice bL r dL] 31)).cell? ⟨b3, of3 + j, none⟩ = some (.int .i64 (FX j))) := fun j hj => (hnx.cell (p := ⟨b3, of3 + j, none⟩) lb3).trans (cc3 j hj)
    have bx := Bx.new w5 [.slice (some ⟨b3, of3, none⟩) r cL, .slice bL r dL] 31
    have bx0 := bx.cell (i := 0) (by simp)
    simp only [List.getElem_cons_zero] at bx0
    have BX0 := Lib.hid bx0
    clear hn hnx o3 o4 cc3 bx bx0 J KB PB HBB hh3 hh4
    go_wp2_with fail
    generalize w5.alloc (.cells #[.slice (some ⟨b3, of3, none⟩) r cL, .slice bL r dL] 31) = V at *
    go_loopw [19] (fun i wr => ∃ j : Nat, j ≤ r ∧ i = .int .i64 j ∧ Hid (∃ q, wr = V.drewN q)) (fun i _ => (r - intOf i).toNat)
    case atStart => exact ⟨0, Nat.zero_le _, rfl, 0, rfl⟩
    case round =>
      obtain ⟨j, hj, rfl, hq⟩ := hrel
      by_cases hjlt : j < r
      · obtain ⟨⟨l1, l2, l3, l4⟩, ⟨y0, y1⟩, z1, z2, z3⟩ := KV.out
        have v1 := z1 j hjlt
        have v2 := CL3.out j hjlt
        have x0 := BX0.out
        have dl : decide (FI j < FX j) = false := decide_eq_false (by have := HL.out j hjlt; omega)
        have j0 : (0 : Int) ≤ (j : Int) := by omega
        have j1 : (j : Int) < (r : Int) := by omega
        obtain ⟨q, rfl⟩ := hq.out
        clear z1 z2 z3
        go_wp2_with fail
        go_quiet (fail)
        go_wp2
        go_roundw
        case rel => exact ⟨j + 1, by omega, by go_num, _, rfl⟩
        case measure => simp [intOf]; omega
      · obtain rfl : r = j := by omega
        obtain ⟨q, rfl⟩ := hq.out
        have HBZ := Lib.hid (below_dn HBV.out q)
        clear KV HBV hq CL3 BX0 HL
        go_wp2
        go_ret
        exact ⟨rfl, HBZ.out⟩
set_option maxRecDepth 100000 in
theorem w_FnFitFewer (a0 : Option Addr) (len0 cap0 : Nat) (z0 : List Int) (a1 : Option Addr) (len1 cap1 : Nat) (z1 : List Int) (w : World) (w0 : IsRow .u8 w a0 len0 cap0 z0) (w1 : IsRow .u8 w a1 len1 cap1 z1) :
    Calls Try.prog 11 #[.slice a0 len0 cap0, .slice a1 len1 cap1] w fun e w' => e = .returned (.bool true) ∧ Below w.heap.size w w' := by
  obtain ⟨hA, hc, hm⟩ := w0.bytes
  obtain ⟨hA1, hc1, hm1⟩ := w1.bytes
  by_cases hs0 : 1048576 < len0
  · have hd0 : decide ((1048576 : Int) < (len0 : Int)) = true := by simp; omega
    clear w0 hA w1 hA1
    go_enter Try.func11, Try.ntmps11
    go_wp2
    go_ret
    exact ⟨rfl, Below.refl _ _⟩
  by_cases hs1 : 1048576 < len1
  · have hd0 : decide ((1048576 : Int) < (len0 : Int)) = false := by simp; omega
    have hd1 : decide ((1048576 : Int) < (len1 : Int)) = true := by simp; omega
    clear w0 hA w1 hA1
    go_enter Try.func11, Try.ntmps11
    go_wp2
    go_ret
    exact ⟨rfl, Below.refl _ _⟩
  · exact y_FnFitFewer a0 len0 cap0 a1 len1 cap1 w hA (by omega) hc hm (by omega)
end Go.Proofs.Ytjppkcfbhhjniaa
