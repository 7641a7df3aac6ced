/-
  The walks of FnFit and FnFitFewer.
-/
import Derived.Test.YtjppkcfbhhjniaaPathOrL
import Derived.Test.YtjppkcfbhhjniaaPathMo
import Derived.Test.YtjppkcfbhhjniaaVw
import Derived.Test.YtjppkcfbhhjniaaDrawPx
import Derived.Test.YtjppkcfbhhjniaaPathFd
namespace Go.Proofs.Ytjppkcfbhhjniaa
open Go.RowKit Go.Deep
set_option linter.unusedVariables false

theorem fitNo_i {n frm : Int} {m : Nat} {D : Nat → PD} {r : Nat} {f : Nat → Int} (hm : m ≤ 1048576) (hr : r ≤ 1048576) (hno : ¬ (pathsV n D m = true ∧ runsV n r f ∧ 0 ≤ frm ∧ okTo D m f frm r)) (W : World) (A : Option Addr) (c : Nat) (R : Option Addr) (d : Nat) (p : PsRn W W.heap.size A m D) (q : Rn W W.heap.size R r f) :
    Calls Try.prog 42 #[.int .i64 n, .slice A m c, .int .i64 frm, .slice R r d] W (NoPath W) := by
  rcases Classical.em (pathsV n D m = true ∧ runsV n r f ∧ 0 ≤ frm) with hv | hv
  · obtain ⟨h1, h2, h3⟩ := hv
    obtain rfl : (r : Int) = n := h2.2.1
    exact (iFit_go A m c D R r d f frm W p q h1 h2 h3).mono fun e w' h => h.elim (fun x => absurd ⟨h1, h2, h3, x.1⟩ hno) (fun x => x.2)
  · exact iFit_no A m c D R r d f n frm W p q (by omega) (by omega) hv
theorem fitNo_s {n frm : Int} {m : Nat} {D : Nat → PD} {r : Nat} {f : Nat → Int} (hm : m ≤ 1048576) (hr : r ≤ 1048576) (hno : ¬ (pathsV n D m = true ∧ runsV n r f ∧ 0 ≤ frm ∧ okTo D m f frm r)) (W : World) (A : Option Addr) (c : Nat) (R : Option Addr) (d : Nat) (p : PsRn W W.heap.size A m D) (q : Rn W W.heap.size R r f) :
    Calls Try.prog 43 #[.int .i64 n, .slice A m c, .int .i64 frm, .slice R r d] W (NoPath W) := by
  rcases Classical.em (pathsV n D m = true ∧ runsV n r f ∧ 0 ≤ frm) with hv | hv
  · obtain ⟨h1, h2, h3⟩ := hv
    obtain rfl : (r : Int) = n := h2.2.1
    exact (sFit_go A m c D R r d f frm W p q h1 h2 h3).mono fun e w' h => h.elim (fun x => absurd ⟨h1, h2, h3, x.1⟩ hno) (fun x => x.2)
  · exact sFit_no A m c D R r d f n frm W p q (by omega) (by omega) hv
theorem fitYes_i {frm : Int} {m : Nat} {D : Nat → PD} {r : Nat} {f : Nat → Int} (h1 : pathsV r D m = true) (h2 : runsV r r f) (h3 : 0 ≤ frm) (h4 : okTo D m f frm r) (W : World) (A : Option Addr) (c : Nat) (R : Option Addr) (d : Nat) (p : PsRn W W.heap.size A m D) (q : Rn W W.heap.size R r f) :
    Calls Try.prog 42 #[.int .i64 (r : Int), .slice A m c, .int .i64 frm, .slice R r d] W (PathRes W true r (inT D m f frm) r (fun k => rdy D m f frm (k + 1))) :=
  (iFit_go A m c D R r d f frm W p q h1 h2 h3).mono fun e w' h => h.elim (fun x => x.2) (fun x => absurd h4 x.1)
theorem fitYes_s {frm : Int} {m : Nat} {D : Nat → PD} {r : Nat} {f : Nat → Int} (h1 : pathsV r D m = true) (h2 : runsV r r f) (h3 : 0 ≤ frm) (h4 : okTo D m f frm r) (W : World) (A : Option Addr) (c : Nat) (R : Option Addr) (d : Nat) (p : PsRn W W.heap.size A m D) (q : Rn W W.heap.size R r f) :
    Calls Try.prog 43 #[.int .i64 (r : Int), .slice A m c, .int .i64 frm, .slice R r d] W (PathRes W true r (inT D m f frm) r (fun k => rdy D m f frm (k + 1))) :=
  (sFit_go A m c D R r d f frm W p q h1 h2 h3).mono fun e w' h => h.elim (fun x => x.2) (fun x => absurd h4 x.1)
/-- A path in a box, and runs. -/
def FitC (W : World) (X r b1 o1 cG b2 o2 dG rb ro : Nat) (FI FO f : Nat → Int) : Prop :=
  (X < W.heap.size ∧ b1 < W.heap.size ∧ b2 < W.heap.size ∧ rb < W.heap.size) ∧ (W.cell? ⟨X, 0, none⟩ = some (.slice (some ⟨b1, o1, none⟩) r cG) ∧ W.cell? ⟨X, 1, none⟩ = some (.slice (some ⟨b2, o2, none⟩) r dG)) ∧
    (∀ k, k < r → W.cell? ⟨b1, o1 + k, none⟩ = some (.int .i64 (FI k))) ∧ (∀ k, k < r → W.cell? ⟨b2, o2 + k, none⟩ = some (.int .i64 (FO k))) ∧ (∀ k, k < r → W.cell? ⟨rb, ro + k, none⟩ = some (.int .i64 (f k)))
theorem FitC.call {W W' : World} {X r b1 o1 cG b2 o2 dG rb ro : Nat} {FI FO f : Nat → Int} (h : FitC W X r b1 o1 cG b2 o2 dG rb ro FI FO f) (hb : Below W.heap.size W W') : FitC W' X r b1 o1 cG b2 o2 dG rb ro FI FO f := by
  obtain ⟨⟨l1, l2, l3, l4⟩, ⟨c1, c2⟩, h1, h2, h3⟩ := h
  have hs := hb.size
  exact ⟨⟨by omega, by omega, by omega, by omega⟩, ⟨(hb.cell (p := ⟨X, 0, none⟩) l1).trans c1, (hb.cell (p := ⟨X, 1, none⟩) l1).trans c2⟩, fun k hk => (hb.cell (p := ⟨b1, o1 + k, none⟩) l2).trans (h1 k hk), fun k hk => (hb.cell (p := ⟨b2, o2 + k, none⟩) l3).trans (h2 k hk), fun k hk => (hb.cell (p := ⟨rb, ro + k, none⟩) l4).trans (h3 k hk)⟩
theorem FitC.drewN {W : World} {X r b1 o1 cG b2 o2 dG rb ro : Nat} {FI FO f : Nat → Int} (h : FitC W X r b1 o1 cG b2 o2 dG rb ro FI FO f) (q : Nat) : FitC (W.drewN q) X r b1 o1 cG b2 o2 dG rb ro FI FO f := h
theorem FitC.rn {W : World} {X r b1 o1 cG b2 o2 dG rb ro : Nat} {FI FO f : Nat → Int} (h : FitC W X r b1 o1 cG b2 o2 dG rb ro FI FO f) : Rn W W.heap.size (some ⟨b1, o1, none⟩) r FI ∧ Rn W W.heap.size (some ⟨b2, o2, none⟩) r FO ∧ Rn W W.heap.size (some ⟨rb, ro, none⟩) r f := by
  obtain ⟨⟨l1, l2, l3, l4⟩, _, h1, h2, h3⟩ := h
  exact ⟨fun _ => ⟨b1, o1, rfl, l2, h1⟩, fun _ => ⟨b2, o2, rfl, l3, h2⟩, fun _ => ⟨rb, ro, rfl, l4, h3⟩⟩
theorem iPV (v : Bool) (a1 a2 : Option Addr) (n1 c1 n2 c2 : Nat) (f1 f2 : Nat → Int) (n : Int) (w : World) (hv : pathV n ⟨n1, f1, n2, f2⟩ = v) (r1 : Rn w w.heap.size a1 n1 f1) (r2 : Rn w w.heap.size a2 n2 f2) :
    Calls Try.prog 44 #[.int .i64 n, .agg #[.slice a1 n1 c1, .slice a2 n2 c2]] w fun e w' => e = .returned (.bool v) ∧ Below w.heap.size w w' := by
  have R1 := Lib.hid (r1.top (.cells #[.slice a1 n1 c1, .slice a2 n2 c2] 31))
  have R2 := Lib.hid (r2.top (.cells #[.slice a1 n1 c1, .slice a2 n2 c2] 31))
  have V := Lib.hid hv
  clear hv
  go_enter Try.func44, Try.ntmps44
  go_wp2_with (go_at_call 59; refine (iValid_is v w.heap.size 0 a1 a2 n1 c1 n2 c2 f1 f2 n _ V.out ?_ ?_ R1.out R2.out).mono ?_; (simp [go_sem]); (simp [go_sem]); rintro e w1 ⟨rfl, q, rfl⟩)
  go_ret
  exact ⟨rfl, (by go_grown <;> (refine below_dn ?_ _ <;> go_grown <;> (refine below_dn ?_ _ <;> go_grown)))⟩
set_option maxRecDepth 100000 in
set_option maxHeartbeats 8000000 in
theorem y_FnFit (a0 : Option Addr) (len0 cap0 : Nat) (a1 : Option Addr) (len1 cap1 : Nat) (w : World) (hA : BytesAt w.heap.size w a0 len0) (hl : len0 ≤ 1048576) (hc : len0 ≤ cap0) (hm : cap0 ≤ 9223372036854775807) (hl1 : len1 ≤ 1048576) :
    Calls Try.prog 10 #[.slice a0 len0 cap0, .slice a1 len1 cap1] w fun e w' => e = .returned (.bool true) ∧ Below w.heap.size w w' := by
  have hAH := Lib.hid hA
  have hd0 : decide ((1048576 : Int) < (len0 : Int)) = false := by simp; omega
  have hd1 : decide ((1048576 : Int) < (len1 : Int)) = false := by simp; omega
  clear hA
  go_enter Try.func10, Try.ntmps10
  go_wp2_with fail
  refine (d_DrawPathsFit a0 len0 cap0 w hAH.out hl hc hm).mono ?_
  rintro e wb ⟨n, g, m, c, D, frm, R, r, d, f, rfl, hr5, hfr, hRn, hn, hm10, hD, hp, hb⟩
  clear hc hm hAH hl hd0 hd1
  have HB := Lib.hid hb
  have P0 := Lib.hid hp
  have R0 := Lib.hid hRn
  clear hb hp hRn
  by_cases hok : pathsV n D m = true ∧ runsV n r f ∧ 0 ≤ frm ∧ okTo D m f frm r
  rotate_left
  · skip
    have I := Lib.hid (fun (W : World) (A : Option Addr) (c : Nat) (R : Option Addr) (d : Nat) (p : PsRn W W.heap.size A m D) (q : Rn W W.heap.size R r f) => fitNo_i (n := (n : Int)) (by omega) (by omega) hok W A c R d p q)
    have S := Lib.hid (fun (W : World) (A : Option Addr) (c : Nat) (R : Option Addr) (d : Nat) (p : PsRn W W.heap.size A m D) (q : Rn W W.heap.size R r f) => fitNo_s (n := (n : Int)) (by omega) (by omega) hok W A c R d p q)
    clear hok
    go_wp2_with fail
    refine (I.out _ _ _ _ _ P0.out R0.out).mono ?_
    rintro e w2 ⟨rfl, hn2⟩
    have P2 := Lib.hid ((P0.out.topb hn2).top (.cells #[.slice none 0 0, .slice none 0 0] 31))
    have R2 := Lib.hid ((R0.out.topb hn2).top (.cells #[.slice none 0 0, .slice none 0 0] 31))
    have hb2 := bl HB.out (Nat.le_refl _) hn2
    have hy := Bx.new w2 [.slice none 0 0, .slice none 0 0] 31
    clear hn2 P0 R0 I
    go_wp2_with fail
    refine (S.out _ _ _ _ _ P2.out R2.out).mono ?_
    rintro e w3 ⟨rfl, hn3⟩
    have hy := hy.call hn3
    have hb3 : Below w.heap.size w w3 := bl (show Below w.heap.size w (w2.alloc (.cells #[.slice none 0 0, .slice none 0 0] 31)) by have := hb2.size; go_grown) (Nat.le_refl _) hn3
    have d0 := hy.cell (i := 0) (by simp)
    have d1 := hy.cell (i := 1) (by simp)
    have ly := hy.lt
    simp only [List.getElem_cons_zero, List.getElem_cons_succ] at d0 d1
    clear hn3 P2 R2 hb2 S
    go_wp2_with fail
    refine (samePath_self none none none none 0 0 0 0 0 0 (fun _ => 0) (fun _ => 0) _ (Rn.nil _ _ _ _) (Rn.nil _ _ _ _) (Rn.nil _ _ _ _) (Rn.nil _ _ _ _) (by omega) (by omega)).mono ?_
    rintro e w4 ⟨rfl, hn4⟩
    have hy := (hy.alloc (.cells #[.slice none 0 0, .slice none 0 0] 31)).call hn4
    have hz := (Bx.new w3 [.slice none 0 0, .slice none 0 0] 31).call hn4
    have hb4 : Below w.heap.size w w4 := bl (show Below w.heap.size w (w3.alloc (.cells #[.slice none 0 0, .slice none 0 0] 31)) by have := hb3.size; go_grown) (Nat.le_refl _) hn4
    have d0 := hy.cell (i := 0) (by simp)
    have d1 := hy.cell (i := 1) (by simp)
    have e0 := hz.cell (i := 0) (by simp)
    have e1 := hz.cell (i := 1) (by simp)
    simp only [List.getElem_cons_zero, List.getElem_cons_succ] at d0 d1 e0 e1
    clear hn4 hb3 hy hz
    go_wp2_with fail
    refine (samePath_self none none none none 0 0 0 0 0 0 (fun _ => 0) (fun _ => 0) _ (Rn.nil _ _ _ _) (Rn.nil _ _ _ _) (Rn.nil _ _ _ _) (Rn.nil _ _ _ _) (by omega) (by omega)).mono ?_
    rintro e w5 ⟨rfl, hn5⟩
    have hb5 := bl hb4 (Nat.le_refl _) hn5
    clear hn5 hb4 d0 d1 e0 e1
    go_wp2
    go_ret
    exact ⟨rfl, hb5⟩
  obtain ⟨h1, h2, h3, h4⟩ := hok
  obtain rfl : r = n := by have := h2.2.1; omega
  have hm8 : m ≤ 8 := (pathsV_iff.1 h1).2.2.1
  have hr5 : 1 ≤ r ∧ r ≤ 5 := by have := h2.1; omega
  have hFV := fitP_valid h1 hr5 h2.2.2 h3 h4
  have PV := Lib.hid h1
  have RV := Lib.hid h2
  have OK := Lib.hid h4
  have I := Lib.hid (fun (W : World) (A : Option Addr) (c : Nat) (R : Option Addr) (d : Nat) (p : PsRn W W.heap.size A m D) (q : Rn W W.heap.size R r f) => fitYes_i h1 h2 h3 h4 W A c R d p q)
  have S := Lib.hid (fun (W : World) (A : Option Addr) (c : Nat) (R : Option Addr) (d : Nat) (p : PsRn W W.heap.size A m D) (q : Rn W W.heap.size R r f) => fitYes_s h1 h2 h3 h4 W A c R d p q)
  have VP := Lib.hid hFV
  obtain ⟨rb, ro, rfl, hrb, hrc⟩ := R0.out (by omega)
  have H0 : Hold wb [psA wb.heap.size (some ⟨g, 0, none⟩) m D, rnA wb.heap.size (some ⟨rb, ro, none⟩) r f] := ((Hold.nil wb).rn (Nat.le_refl _) R0.out).ps (Nat.le_refl _) P0.out
  have B0 : Below wb.heap.size wb wb := Below.refl _ _
  clear h1 h2 h4 hFV hrc P0 R0
  go_wp2_with fail
  refine (I.out _ _ _ _ _ H0.psup H0.tl.rnup).mono ?_
  rintro e w1 ⟨aG, cG, bG, dG, rfl, ho, hn⟩
  have H1 := (H0.call hn).op (Nat.le_refl _) ho
  have B1 : Below wb.heap.size wb w1 := bl B0 (Nat.le_refl _) hn
  have s1 := hn.size
  clear hn ho H0 B0
  go_wp2_with fail
  refine (S.out _ _ _ _ _ (H1.tl.psup.top _) (H1.tl.tl.rnup.top _)).mono ?_
  rintro e w2 ⟨aW, cW, bW, dW, rfl, ho, hn⟩
  have H2 := (H1.new [.slice aG r cG, .slice bG r dG] 31).call hn
  have B2 : Below wb.heap.size wb w2 := bl (show Below wb.heap.size wb (w1.alloc (.cells #[.slice aG r cG, .slice bG r dG] 31)) by go_grown) (by first | (simp; done) | (simp; omega)) hn
  have s2 : w1.heap.size + 1 ≤ w2.heap.size := by have := hn.size; simpa using this
  (try simp only [World.size_alloc] at ho)
  have H2 := H2.op (Nat.le_refl _) ho
  clear hn ho H1 B1 I S
  obtain ⟨xg2, yg2⟩ := H2.tl.bx2
  have lg2 := H2.tl.bxlt
  go_wp2_with fail
  refine (samePath_self _ _ _ _ _ _ _ _ _ _ _ _ _ (H2.tl.tl.op1.top _) (H2.tl.tl.op2.top _) (H2.op1.top _) (H2.op2.top _) (by omega) (by omega)).mono ?_
  rintro e w3 ⟨rfl, hn⟩
  have H3 := (H2.new [.slice aW r cW, .slice bW r dW] 31).call hn
  have B3 : Below wb.heap.size wb w3 := bl (show Below wb.heap.size wb (w2.alloc (.cells #[.slice aW r cW, .slice bW r dW] 31)) by go_grown) (by first | (simp; done) | (simp; omega)) hn
  have s3 : w2.heap.size + 1 ≤ w3.heap.size := by have := hn.size; simpa using this
  clear hn H2 B2 xg2 yg2 lg2
  obtain ⟨xg3, yg3⟩ := H3.tl.tl.bx2
  have lg3 := H3.tl.tl.bxlt
  have P3 := Lib.hid H3.tl.tl.tl.tl.psup
  obtain ⟨b1, b2, hh1, hh2, hne, o1, o2⟩ := H3.tl.tl.tl.opP
  obtain ⟨of1, Eq1, lb1, -, cc1⟩ := o1 (by omega)
  obtain ⟨of2, Eq2, lb2, -, cc2⟩ := o2 (by omega)
  obtain ⟨rb', ro', Eq3, lrb, crb⟩ := H3.tl.tl.tl.tl.tl.rnup (by omega)
  simp only [Option.some.injEq, Addr.mk.injEq, and_true] at Eq3
  obtain ⟨rfl, rfl⟩ := Eq3
  subst Eq1
  subst Eq2
  have K3 : Hid (FitC w3 w1.heap.size r b1 of1 cG b2 of2 dG rb ro (inT D m f frm) (fun k => rdy D m f frm (k + 1)) f) := ⟨⟨lg3, lb1, lb2, lrb⟩, ⟨xg3, yg3⟩, cc1, cc2, crb⟩
  have HB3 := Lib.hid (bl HB.out (Nat.le_refl _) B3)
  clear B3 H3 o1 o2 cc1 cc2 crb HB hh1 hh2
  obtain ⟨FI, hFI⟩ : ∃ F, inT D m f frm = F := ⟨_, rfl⟩
  obtain ⟨FO, hFO⟩ : ∃ F, (fun k => rdy D m f frm (k + 1)) = F := ⟨_, rfl⟩
  obtain ⟨AT, hAT⟩ : ∃ F, rdy D m f frm = F := ⟨_, rfl⟩
  have hA0 : AT 0 = frm := by rw [← hAT]; rfl
  have hA1 : ∀ k, AT (k + 1) = FI k + f k := fun k => by rw [← hAT, ← hFI]; exact rdy_succ _ _ _ _ _
  have hO1 : ∀ k, FO k = FI k + f k := fun k => by rw [← hFO, ← hFI]; exact rdy_succ _ _ _ _ _
  have hbd : ∀ k, k < r → 0 ≤ AT k ∧ AT k ≤ FI k ∧ FI k + f k ≤ 2000 ∧ 1 ≤ f k ∧ f k ≤ 100 := fun k hk => by
    have z1 := inT_bd (OK.out k hk)
    have z2 := RV.out.2.2 k hk
    have z3 := rdy_bd (j := k) (fun k' hk' => OK.out k' (by omega)) h3 (fun k' hk' => (RV.out.2.2 k' (by omega)).1)
    rw [hAT] at z1 z3
    rw [hFI] at z1
    omega
  rw [hFI, hFO] at K3
  have VP : Hid (pathV r ⟨r, FI, r, FO⟩ = true ∧ ∀ i, i < m → clashL r (D i) ⟨r, FI, r, FO⟩ = []) := by have := VP.out; unfold fitP at this; rw [hFI, hFO] at this; exact this
  have CC : Hid (∀ k, k < r → ∀ (W : World) (A : Option Addr) (c : Nat), PsRn W W.heap.size A m D → Calls Try.prog 39 #[.int .i64 (r : Int), .slice A m c, .int .i64 (k : Int), .int .i64 (AT k), .int .i64 (f k)] W fun e w' => e = .returned (.tuple #[.int .i64 (FI k), .bool true]) ∧ Below W.heap.size W w') := fun k hk W A c h => by
    have z := inT_is D m f frm k
    rw [OK.out k hk, hAT, hFI] at z
    have := hbd k hk
    exact iFree_yes A m c D r k (AT k) (f k) W h ⟨hasS_yes PV.out ⟨by omega, by omega⟩, by omega, by omega, by omega⟩ _ _ z
  obtain ⟨xx, hx1⟩ : ∃ x : Int, (len1 : Int) % 9 = x := ⟨_, rfl⟩
  have hx2 : Int.tmod (len1 : Int) 9 = xx := by rw [Int.tmod_eq_emod_of_nonneg (by omega)]; exact hx1
  have hxb : 0 ≤ xx ∧ xx ≤ 8 := by omega
  have FRM := Lib.hid hfr
  have HFI := Lib.hid hFI
  clear hAT hFI hFO
  go_wp2_with fail
  go_loopw [13, 14] (fun a i wr => ∃ k : Nat, k ≤ r ∧ i = .int .i64 k ∧ a = .int .i64 (AT k) ∧ Below w3.heap.size w3 wr) (fun _ i _ => (r - intOf i).toNat)
  case atStart => exact ⟨0, Nat.zero_le _, rfl, by rw [hA0], Below.refl _ _⟩
  case round =>
    obtain ⟨k, hk, rfl, rfl, hb⟩ := hrel
    have K4 := Lib.hid (K3.out.call hb)
    have P4 := Lib.hid (P3.out.topb hb)
    have HB4 := Lib.hid (bl HB3.out (Nat.le_refl _) hb)
    by_cases hlt : k < r
    · obtain ⟨⟨l1, l2, l3, l4⟩, ⟨y0, y1⟩, z1, z2, z3⟩ := K4.out
      have v3 := z3 k hlt
      have k0 : (0 : Int) ≤ (k : Int) := by omega
      have k1 : (k : Int) < (r : Int) := by omega
      clear z1 z2 z3
      go_wp2_with fail
      refine (CC.out k hlt _ _ _ P4.out).mono ?_
      rintro e w4 ⟨rfl, hb4⟩
      have hbn : Below w3.heap.size w3 w4 := bl hb (Nat.le_refl _) hb4
      have K5 := Lib.hid (K4.out.call hb4)
      clear hb hb4 y0 y1 v3 K4 P4 HB4 l1 l2 l3 l4
      obtain ⟨⟨l1, l2, l3, l4⟩, ⟨y0, y1⟩, z1, z2, z3⟩ := K5.out
      have v1 := z1 k hlt
      have v2 := z2 k hlt
      have v3 := z3 k hlt
      rw [hO1 k] at v2
      have hbk := hbd k hlt
      have hne1 : (FI k != FI k) = false := eq_lit rfl
      have hne2 : (FI k + f k != FI k + f k) = false := eq_lit rfl
      have hw1 : IntKind.i64.wrap (FI k + f k) = FI k + f k := IntWalk.i64_in _ (by omega)
      clear z1 z2 z3
      go_wp2_with fail
      go_quiet (fail)
      clear hw1
      go_wp2
      go_roundw
      case rel => exact ⟨k + 1, by omega, by go_num, by rw [hA1], below_dn hbn _⟩
      case measure => simp [intOf]; omega
    · obtain rfl : r = k := by omega
      have hw1 : IntKind.i64.wrap (frm + 1) = frm + 1 := IntWalk.i64_in _ (by omega)
      have hw2 : IntKind.i64.wrap (frm + 1 + xx) = frm + 1 + xx := IntWalk.i64_in _ (by omega)
      clear P3 K3 HB3 CC
      by_cases okL : okTo D m f (frm + 1 + xx) r
      · have J := Lib.hid (fun (W : World) (A : Option Addr) (c : Nat) (R : Option Addr) (d : Nat) (p : PsRn W W.heap.size A m D) (q : Rn W W.heap.size R r f) => fitYes_i PV.out RV.out (show 0 ≤ frm + 1 + xx by omega) okL W A c R d p q)
        have hle := fit_in (Fewer.refl D m) (show frm ≤ frm + 1 + xx by omega) okL
        obtain ⟨FL, hFL⟩ : ∃ F, inT D m f (frm + 1 + xx) = F := ⟨_, rfl⟩
        obtain ⟨FM, hFM⟩ : ∃ F, (fun k => rdy D m f (frm + 1 + xx) (k + 1)) = F := ⟨_, rfl⟩
        rw [hFL, hFM] at J
        rw [hFL, HFI.out] at hle
        have HL := Lib.hid hle
        clear okL hFL hFM hle
        go_wp2_with fail
        refine (J.out _ _ _ _ _ P4.out K4.out.rn.2.2).mono ?_
        rintro e w5 ⟨aL, cL, bL, dL, rfl, ho, hn⟩
        obtain ⟨b3, b4, hh3, hh4, hne2, o3, o4⟩ := ho
        obtain ⟨of3, Eq3, lb3, -, cc3⟩ := o3 (by omega)
        subst Eq3
        have hnx : Below w5.heap.size w5 (w5.alloc (.cells #[.slice (some ⟨b3, of3, none⟩) r cL, .slice bL r dL] 31)) := by go_grown
        have KV := Lib.hid ((K4.out.call hn).call hnx)
        have PZ' := Lib.hid ((P4.out.topb hn).topb hnx)
        have HBV := Lib.hid (bl (bl HB4.out (Nat.le_refl _) hn) (Nat.le_refl _) hnx)
        have CL3 : Hid (∀ j, j < r → (w5.alloc (.cells #[.slice (some ⟨b3, of3, none⟩) r cL, .slice bL r dL] 31)).cell? ⟨b3, of3 + j, none⟩ = some (.int .i64 (FL j))) := fun j hj => (hnx.cell (p := ⟨b3, of3 + j, none⟩) lb3).trans (cc3 j hj)
        have bx := Bx.new w5 [.slice (some ⟨b3, of3, none⟩) r cL, .slice bL r dL] 31
        have bx0 := bx.cell (i := 0) (by simp)
        simp only [List.getElem_cons_zero] at bx0
        have BX0 := Lib.hid bx0
        clear hn hnx o3 o4 cc3 bx bx0 J K4 P4 HB4 hb hh3 hh4 hw1 hw2
        go_wp2_with fail
        generalize w5.alloc (.cells #[.slice (some ⟨b3, of3, none⟩) r cL, .slice bL r dL] 31) = V at *
        go_loopw [19] (fun i wr => ∃ j : Nat, j ≤ r ∧ i = .int .i64 j ∧ Hid (∃ q, wr = V.drewN q)) (fun i _ => (r - intOf i).toNat)
        case atStart => exact ⟨0, Nat.zero_le _, rfl, 0, rfl⟩
        case round =>
          obtain ⟨j, hj, rfl, hq⟩ := hrel
          by_cases hjlt : j < r
          · obtain ⟨⟨l1, l2, l3, l4⟩, ⟨y0, y1⟩, z1, z2, z3⟩ := KV.out
            have v1 := z1 j hjlt
            have v2 := CL3.out j hjlt
            have x0 := BX0.out
            have dl : decide (FL j < FI j) = false := decide_eq_false (by have := HL.out j hjlt; omega)
            have j0 : (0 : Int) ≤ (j : Int) := by omega
            have j1 : (j : Int) < (r : Int) := by omega
            obtain ⟨q, rfl⟩ := hq.out
            clear z1 z2 z3
            go_wp2_with fail
            go_quiet (fail)
            go_wp2
            go_roundw
            case rel => exact ⟨j + 1, by omega, by go_num, _, rfl⟩
            case measure => simp [intOf]; omega
          · obtain rfl : r = j := by omega
            have KZ : Hid (FitC wr w1.heap.size r b1 of1 cG b2 of2 dG rb ro FI FO f) := by obtain ⟨q, rfl⟩ := hq.out; exact KV.out.drewN q
            have PZ : Hid (PsRn wr wr.heap.size (some ⟨g, 0, none⟩) m D) := by obtain ⟨q, rfl⟩ := hq.out; exact PZ'.out.topq q
            have HBZ : Hid (Below w.heap.size w wr) := by obtain ⟨q, rfl⟩ := hq.out; exact below_dn HBV.out q
            clear KV PZ' HBV hq CL3 BX0 HL
            obtain ⟨wz, rfl⟩ : ∃ wz : World, wz = wr := ⟨_, rfl⟩
            go_wp2_with fail
            go_loopw [20] (fun i wr => ∃ k : Nat, k ≤ m ∧ i = .int .i64 k ∧ Below wz.heap.size wz wr) (fun i _ => (m - intOf i).toNat)
            case atStart => exact ⟨0, Nat.zero_le _, rfl, by first | exact Below.refl _ _ | exact below_dn (Below.refl _ _) _⟩
            case round =>
              obtain ⟨k, hk, rfl, hb⟩ := hrel
              have K6 := Lib.hid (KZ.out.call hb)
              have P6 := Lib.hid (PZ.out.topb hb)
              have HB6 := Lib.hid (bl HBZ.out (Nat.le_refl _) hb)
              by_cases hlt : k < m
              · obtain ⟨⟨l1, l2, l3, l4⟩, ⟨y0, y1⟩, -, -, -⟩ := K6.out
                obtain ⟨R1, R2, -⟩ := K6.out.rn
                have R1 := Lib.hid R1
                have R2 := Lib.hid R2
                obtain ⟨a1, k1, a2, k2, n1, f1, n2, f2, hD1, x0, x1, r1, r2⟩ := psRn_at0 P6.out hlt
                have CL : Hid (clashL r ⟨n1, f1, n2, f2⟩ ⟨r, FI, r, FO⟩ = []) := by have := VP.out.2 k hlt; rw [hD1] at this; exact this
                have S1 := Lib.hid r1
                have S2 := Lib.hid r2
                have k0 : (0 : Int) ≤ (k : Int) := by omega
                have k1' : (k : Int) < (m : Int) := by omega
                have lgz : g < wr.heap.size := by obtain ⟨b, off, e, hbb, _⟩ := P6.out (by omega); simp only [Option.some.injEq, Addr.mk.injEq, and_true] at e; omega
                clear r1 r2 hD1
                go_wp2_with fail
                go_region_held3 (fun V => V.cell? ⟨g, k * 2, none⟩ = some (.slice a1 n1 k1) ∧ V.cell? ⟨g, k * 2 + 1, none⟩ = some (.slice a2 n2 k2) ∧ V.cell? ⟨w1.heap.size, 0, none⟩ = some (.slice (some ⟨b1, of1, none⟩) r cG) ∧ V.cell? ⟨w1.heap.size, 1, none⟩ = some (.slice (some ⟨b2, of2, none⟩) r dG)) (go_keep)
                  (first | (go_at_call 34; refine (iPathClash a1 a2 (some ⟨b1, of1, none⟩) (some ⟨b2, of2, none⟩) n1 k1 n2 k2 r cG r dG f1 f2 FI FO r _ S1.out.topd S2.out.topd R1.out.topd R2.out.topd).mono ?_; rintro e w7 hres; rw [CL.out] at hres; obtain ⟨gg, cc, kk, rfl, rfl, hn1⟩ := intsRes_nil hres; have hn1 := undrew hn1; have z0 := (hn1.cell (p := ⟨g, k * 2, none⟩) lgz).trans x0; have z1 := (hn1.cell (p := ⟨g, k * 2 + 1, none⟩) lgz).trans x1; have z2 := (hn1.cell (p := ⟨w1.heap.size, 0, none⟩) l1).trans y0; have z3 := (hn1.cell (p := ⟨w1.heap.size, 1, none⟩) l1).trans y1; clear hres))
                have hb7 : Below wz.heap.size wz w7 := bl hb (Nat.le_refl _) hn1
                clear hb hn1 z0 z1 z2 z3 x0 x1 y0 y1
                go_wp2
                go_roundw
                case rel => exact ⟨k + 1, by omega, by go_num, hb7⟩
                case measure => simp [intOf]; omega
              · obtain rfl : k = m := by omega
                obtain ⟨⟨l1, l2, l3, l4⟩, ⟨y0, y1⟩, -, -, -⟩ := K6.out
                obtain ⟨R1, R2, -⟩ := K6.out.rn
                have R1 := Lib.hid R1
                have R2 := Lib.hid R2
                go_wp2_with fail
                refine (iPV true (some ⟨b1, of1, none⟩) (some ⟨b2, of2, none⟩) r cG r dG FI FO r _ VP.out.1 R1.out R2.out).mono ?_
                rintro e w7 ⟨rfl, hb7⟩
                have HB7 := Lib.hid (bl HB6.out (Nat.le_refl _) hb7)
                clear hb hb7
                go_wp2
                go_ret
                exact ⟨rfl, HB7.out⟩
      · have J := Lib.hid (fun (W : World) (A : Option Addr) (c : Nat) (R : Option Addr) (d : Nat) (p : PsRn W W.heap.size A m D) (q : Rn W W.heap.size R r f) => fitNo_i (n := (r : Int)) (frm := frm + 1 + xx) (by omega) (by omega) (fun h => okL h.2.2.2) W A c R d p q)
        clear okL
        go_wp2_with fail
        refine (J.out _ _ _ _ _ P4.out K4.out.rn.2.2).mono ?_
        rintro e w5 ⟨rfl, hn⟩
        have hnx : Below w5.heap.size w5 (w5.alloc (.cells #[.slice none 0 0, .slice none 0 0] 31)) := by go_grown
        have KZ' := Lib.hid ((K4.out.call hn).call hnx)
        have PZ' := Lib.hid ((P4.out.topb hn).topb hnx)
        have HBZ' := Lib.hid (bl (bl HB4.out (Nat.le_refl _) hn) (Nat.le_refl _) hnx)
        clear hn hnx J K4 P4 HB4 hb hw1 hw2
        go_wp2_with fail
        generalize w5.alloc (.cells #[.slice none 0 0, .slice none 0 0] 31) = V at *
        go_loopw [19] (fun i wr => i = .int .i64 0 ∧ wr = V) (fun _ _ => 0)
        case atStart => exact ⟨rfl, rfl⟩
        case round =>
          obtain ⟨rfl, rfl⟩ := hrel
          have KZ := KZ'
          have PZ := PZ'
          have HBZ := HBZ'
          clear KZ' PZ' HBZ'
          obtain ⟨wz, rfl⟩ : ∃ wz : World, wz = wr := ⟨_, rfl⟩
          go_wp2_with fail
          go_loopw [20] (fun i wr => ∃ k : Nat, k ≤ m ∧ i = .int .i64 k ∧ Below wz.heap.size wz wr) (fun i _ => (m - intOf i).toNat)
          case atStart => exact ⟨0, Nat.zero_le _, rfl, by first | exact Below.refl _ _ | exact below_dn (Below.refl _ _) _⟩
          case round =>
            obtain ⟨k, hk, rfl, hb⟩ := hrel
            have K6 := Lib.hid (KZ.out.call hb)
            have P6 := Lib.hid (PZ.out.topb hb)
            have HB6 := Lib.hid (bl HBZ.out (Nat.le_refl _) hb)
            by_cases hlt : k < m
            · obtain ⟨⟨l1, l2, l3, l4⟩, ⟨y0, y1⟩, -, -, -⟩ := K6.out
              obtain ⟨R1, R2, -⟩ := K6.out.rn
              have R1 := Lib.hid R1
              have R2 := Lib.hid R2
              obtain ⟨a1, k1, a2, k2, n1, f1, n2, f2, hD1, x0, x1, r1, r2⟩ := psRn_at0 P6.out hlt
              have CL : Hid (clashL r ⟨n1, f1, n2, f2⟩ ⟨r, FI, r, FO⟩ = []) := by have := VP.out.2 k hlt; rw [hD1] at this; exact this
              have S1 := Lib.hid r1
              have S2 := Lib.hid r2
              have k0 : (0 : Int) ≤ (k : Int) := by omega
              have k1' : (k : Int) < (m : Int) := by omega
              have lgz : g < wr.heap.size := by obtain ⟨b, off, e, hbb, _⟩ := P6.out (by omega); simp only [Option.some.injEq, Addr.mk.injEq, and_true] at e; omega
              clear r1 r2 hD1
              go_wp2_with fail
              go_region_held3 (fun V => V.cell? ⟨g, k * 2, none⟩ = some (.slice a1 n1 k1) ∧ V.cell? ⟨g, k * 2 + 1, none⟩ = some (.slice a2 n2 k2) ∧ V.cell? ⟨w1.heap.size, 0, none⟩ = some (.slice (some ⟨b1, of1, none⟩) r cG) ∧ V.cell? ⟨w1.heap.size, 1, none⟩ = some (.slice (some ⟨b2, of2, none⟩) r dG)) (go_keep)
                (first | (go_at_call 34; refine (iPathClash a1 a2 (some ⟨b1, of1, none⟩) (some ⟨b2, of2, none⟩) n1 k1 n2 k2 r cG r dG f1 f2 FI FO r _ S1.out.topd S2.out.topd R1.out.topd R2.out.topd).mono ?_; rintro e w7 hres; rw [CL.out] at hres; obtain ⟨gg, cc, kk, rfl, rfl, hn1⟩ := intsRes_nil hres; have hn1 := undrew hn1; have z0 := (hn1.cell (p := ⟨g, k * 2, none⟩) lgz).trans x0; have z1 := (hn1.cell (p := ⟨g, k * 2 + 1, none⟩) lgz).trans x1; have z2 := (hn1.cell (p := ⟨w1.heap.size, 0, none⟩) l1).trans y0; have z3 := (hn1.cell (p := ⟨w1.heap.size, 1, none⟩) l1).trans y1; clear hres))
              have hb7 : Below wz.heap.size wz w7 := bl hb (Nat.le_refl _) hn1
              clear hb hn1 z0 z1 z2 z3 x0 x1 y0 y1
              go_wp2
              go_roundw
              case rel => exact ⟨k + 1, by omega, by go_num, hb7⟩
              case measure => simp [intOf]; omega
            · obtain rfl : k = m := by omega
              obtain ⟨⟨l1, l2, l3, l4⟩, ⟨y0, y1⟩, -, -, -⟩ := K6.out
              obtain ⟨R1, R2, -⟩ := K6.out.rn
              have R1 := Lib.hid R1
              have R2 := Lib.hid R2
              go_wp2_with fail
              refine (iPV true (some ⟨b1, of1, none⟩) (some ⟨b2, of2, none⟩) r cG r dG FI FO r _ VP.out.1 R1.out R2.out).mono ?_
              rintro e w7 ⟨rfl, hb7⟩
              have HB7 := Lib.hid (bl HB6.out (Nat.le_refl _) hb7)
              clear hb hb7
              go_wp2
              go_ret
              exact ⟨rfl, HB7.out⟩
set_option maxRecDepth 100000 in
theorem w_FnFit (a0 : Option Addr) (len0 cap0 : Nat) (z0 : List Int) (a1 : Option Addr) (len1 cap1 : Nat) (z1 : List Int) (w : World) (w0 : IsRow .u8 w a0 len0 cap0 z0) (w1 : IsRow .u8 w a1 len1 cap1 z1) :
    Calls Try.prog 10 #[.slice a0 len0 cap0, .slice a1 len1 cap1] w fun e w' => e = .returned (.bool true) ∧ Below w.heap.size w w' := by
  obtain ⟨hA, hc, hm⟩ := w0.bytes
  obtain ⟨hA1, hc1, hm1⟩ := w1.bytes
  by_cases hs0 : 1048576 < len0
  · have hd0 : decide ((1048576 : Int) < (len0 : Int)) = true := by simp; omega
    clear w0 hA w1 hA1
    go_enter Try.func10, Try.ntmps10
    go_wp2
    go_ret
    exact ⟨rfl, Below.refl _ _⟩
  by_cases hs1 : 1048576 < len1
  · have hd0 : decide ((1048576 : Int) < (len0 : Int)) = false := by simp; omega
    have hd1 : decide ((1048576 : Int) < (len1 : Int)) = true := by simp; omega
    clear w0 hA w1 hA1
    go_enter Try.func10, Try.ntmps10
    go_wp2
    go_ret
    exact ⟨rfl, Below.refl _ _⟩
  · exact y_FnFit a0 len0 cap0 a1 len1 cap1 w hA (by omega) hc hm (by omega)
end Go.Proofs.Ytjppkcfbhhjniaa
