/-
  The walk of FnPathLate.
-/
import Derived.Test.YtjppkcfbhhjniaaDrawPb
import Derived.Test.YtjppkcfbhhjniaaLawS
namespace Go.Proofs.Ytjppkcfbhhjniaa
open Go.RowKit Go.Deep
set_option linter.unusedVariables false

theorem late_back {m : Nat} {f1 f2 : Nat → Int} {k : Int} (h : pathV m ⟨m, f1, m, f2⟩ = true) : pathV m (lateD (-k) ⟨m, fun j => f1 j + k, m, fun j => f2 j + k⟩) = true := by
  have e : lateD (-k) ⟨m, fun j => f1 j + k, m, fun j => f2 j + k⟩ = ⟨m, f1, m, f2⟩ := by
    simp only [lateD, PD.mk.injEq, true_and]
    exact ⟨funext fun j => by omega, funext fun j => by omega⟩
  rw [e]; exact h
theorem late_no_i {n : Nat} {a1 a2 : Option Addr} {n1 c1 n2 c2 : Nat} {f1 f2 : Nat → Int} {k : Int} (hno : pathV n ⟨n1, f1, n2, f2⟩ = false ∨ ¬ (-2000 ≤ k ∧ k ≤ 2000) ∨ pathV n (lateD k ⟨n1, f1, n2, f2⟩) = false) (W : World) (r1 : Rn W W.heap.size a1 n1 f1) (r2 : Rn W W.heap.size a2 n2 f2) :
    Calls Try.prog 29 #[.int .i64 (n : Int), .agg #[.slice a1 n1 c1, .slice a2 n2 c2], .int .i64 k] W (NoPath W) := by
  cases h : pathV n ⟨n1, f1, n2, f2⟩
  · exact iLate_no a1 a2 n1 c1 n2 c2 f1 f2 n k W r1 r2 (.inl h)
  by_cases hk : -2000 ≤ k ∧ k ≤ 2000
  · obtain ⟨_, _, hm1, hm2, _⟩ := pathV_iff.1 h
    obtain rfl : n1 = n := by simp only at hm1; omega
    obtain rfl : n2 = n1 := by simp only at hm2; omega
    have h3 : pathV n2 (lateD k ⟨n2, f1, n2, f2⟩) = false := by rcases hno with x | x | x; (rw [h] at x; cases x); exact absurd hk x; exact x
    exact iLate_go false a1 a2 n2 c1 c2 f1 f2 k W r1 r2 h hk h3
  · exact iLate_no a1 a2 n1 c1 n2 c2 f1 f2 n k W r1 r2 (.inr hk)
theorem late_no_s {n : Nat} {a1 a2 : Option Addr} {n1 c1 n2 c2 : Nat} {f1 f2 : Nat → Int} {k : Int} (hno : pathV n ⟨n1, f1, n2, f2⟩ = false ∨ ¬ (-2000 ≤ k ∧ k ≤ 2000) ∨ pathV n (lateD k ⟨n1, f1, n2, f2⟩) = false) (W : World) (r1 : Rn W W.heap.size a1 n1 f1) (r2 : Rn W W.heap.size a2 n2 f2) :
    Calls Try.prog 30 #[.int .i64 (n : Int), .agg #[.slice a1 n1 c1, .slice a2 n2 c2], .int .i64 k] W (NoPath W) := by
  cases h : pathV n ⟨n1, f1, n2, f2⟩
  · exact sLate_no a1 a2 n1 c1 n2 c2 f1 f2 n k W r1 r2 (.inl h)
  by_cases hk : -2000 ≤ k ∧ k ≤ 2000
  · obtain ⟨_, _, hm1, hm2, _⟩ := pathV_iff.1 h
    obtain rfl : n1 = n := by simp only at hm1; omega
    obtain rfl : n2 = n1 := by simp only at hm2; omega
    have h3 : pathV n2 (lateD k ⟨n2, f1, n2, f2⟩) = false := by rcases hno with x | x | x; (rw [h] at x; cases x); exact absurd hk x; exact x
    exact sLate_go false a1 a2 n2 c1 c2 f1 f2 k W r1 r2 h hk h3
  · exact sLate_no a1 a2 n1 c1 n2 c2 f1 f2 n k W r1 r2 (.inr hk)
set_option maxHeartbeats 4000000 in
theorem y_FnPathLate (a0 : Option Addr) (len0 cap0 : Nat) (w : World) (hA : BytesAt w.heap.size w a0 len0) (hl : len0 ≤ 1048576) (hc : len0 ≤ cap0) (hm : cap0 ≤ 9223372036854775807) :
    Calls Try.prog 6 #[.slice a0 len0 cap0] w fun e w' => e = .returned (.bool true) ∧ Below w.heap.size w w' := by
  have hAH := Lib.hid hA
  have hd0 : decide ((1048576 : Int) < (len0 : Int)) = false := by simp; omega
  clear hA
  go_enter Try.func6, Try.ntmps6
  go_wp2_with fail
  refine (d_DrawPathLate a0 len0 cap0 w hAH.out hl hc hm).mono ?_
  rintro e wb ⟨n, a1, n1, c1, f1, a2, n2, c2, f2, k, rfl, hn, hn1, hn2, r1, r2, hb⟩
  clear hc hm hAH hl hd0
  by_cases hno : pathV n ⟨n1, f1, n2, f2⟩ = false ∨ ¬ (-2000 ≤ k ∧ k ≤ 2000) ∨ pathV n (lateD k ⟨n1, f1, n2, f2⟩) = false
  · have I : Hid (∀ W : World, Rn W W.heap.size a1 n1 f1 → Rn W W.heap.size a2 n2 f2 → Calls Try.prog 29 #[.int .i64 (n : Int), .agg #[.slice a1 n1 c1, .slice a2 n2 c2], .int .i64 k] W (NoPath W)) := late_no_i hno
    have S : Hid (∀ W : World, Rn W W.heap.size a1 n1 f1 → Rn W W.heap.size a2 n2 f2 → Calls Try.prog 30 #[.int .i64 (n : Int), .agg #[.slice a1 n1 c1, .slice a2 n2 c2], .int .i64 k] W (NoPath W)) := late_no_s hno
    have hx := Bx.new wb [.slice a1 n1 c1, .slice a2 n2 c2] 31
    have R1 := Lib.hid (r1.top (.cells #[.slice a1 n1 c1, .slice a2 n2 c2] 31))
    have R2 := Lib.hid (r2.top (.cells #[.slice a1 n1 c1, .slice a2 n2 c2] 31))
    have hs := hb.size
    clear hno r1 r2
    go_wp2_with fail
    refine (I.out _ R1.out R2.out).mono ?_
    rintro e w2 ⟨rfl, hn2'⟩
    have hx := hx.call hn2'
    have R3 := Lib.hid ((R1.out.topb hn2').top (.cells #[.slice none 0 0, .slice none 0 0] 31))
    have R4 := Lib.hid ((R2.out.topb hn2').top (.cells #[.slice none 0 0, .slice none 0 0] 31))
    have hb2 : Below w.heap.size w w2 := bl (show Below w.heap.size w (wb.alloc (.cells #[.slice a1 n1 c1, .slice a2 n2 c2] 31)) by go_grown) (Nat.le_refl _) hn2'
    have c0 := hx.cell (i := 0) (by simp)
    have c1' := hx.cell (i := 1) (by simp)
    have lx := hx.lt
    simp only [List.getElem_cons_zero, List.getElem_cons_succ] at c0 c1'
    have hy := Bx.new w2 [.slice none 0 0, .slice none 0 0] 31
    clear hn2' R1 R2 hb
    go_wp2_with fail
    refine (S.out _ R3.out R4.out).mono ?_
    rintro e w3 ⟨rfl, hn3⟩
    have hy := hy.call hn3
    have hb3 : Below w.heap.size w w3 := bl (show Below w.heap.size w (w2.alloc (.cells #[.slice none 0 0, .slice none 0 0] 31)) by have := hb2.size; go_grown) (Nat.le_refl _) hn3
    have d0 := hy.cell (i := 0) (by simp)
    have d1 := hy.cell (i := 1) (by simp)
    have ly := hy.lt
    simp only [List.getElem_cons_zero, List.getElem_cons_succ] at d0 d1
    clear hn3 R3 R4 hb2 c0 c1' hx
    go_wp2_with fail
    refine (samePath_self none none none none 0 0 0 0 0 0 (fun _ => 0) (fun _ => 0) _ (Rn.nil _ _ _ _) (Rn.nil _ _ _ _) (Rn.nil _ _ _ _) (Rn.nil _ _ _ _) (by omega) (by omega)).mono ?_
    rintro e w4 ⟨rfl, hn4⟩
    have hy := (hy.alloc (.cells #[.slice none 0 0, .slice none 0 0] 31)).call hn4
    have hz := (Bx.new w3 [.slice none 0 0, .slice none 0 0] 31).call hn4
    have hb4 : Below w.heap.size w w4 := bl (show Below w.heap.size w (w3.alloc (.cells #[.slice none 0 0, .slice none 0 0] 31)) by have := hb3.size; go_grown) (Nat.le_refl _) hn4
    have d0 := hy.cell (i := 0) (by simp)
    have d1 := hy.cell (i := 1) (by simp)
    have e0 := hz.cell (i := 0) (by simp)
    have e1 := hz.cell (i := 1) (by simp)
    simp only [List.getElem_cons_zero, List.getElem_cons_succ] at d0 d1 e0 e1
    clear hn4 hb3 hy hz
    go_wp2_with fail
    refine (samePath_self none none none none 0 0 0 0 0 0 (fun _ => 0) (fun _ => 0) _ (Rn.nil _ _ _ _) (Rn.nil _ _ _ _) (Rn.nil _ _ _ _) (Rn.nil _ _ _ _) (by omega) (by omega)).mono ?_
    rintro e w5 ⟨rfl, hn5⟩
    have hb5 := bl hb4 (Nat.le_refl _) hn5
    clear hn5 hb4 d0 d1 e0 e1
    go_wp2
    go_ret
    exact ⟨rfl, hb5⟩
  have hp : pathV n ⟨n1, f1, n2, f2⟩ = true := by
    cases h : pathV n ⟨n1, f1, n2, f2⟩
    · exact absurd (.inl h) hno
    · rfl
  have hk : -2000 ≤ k ∧ k ≤ 2000 := Classical.byContradiction fun x => hno (.inr (.inl x))
  have hp2 : pathV n (lateD k ⟨n1, f1, n2, f2⟩) = true := by
    cases h : pathV n (lateD k ⟨n1, f1, n2, f2⟩)
    · exact absurd (.inr (.inr h)) hno
    · rfl
  obtain ⟨_, _, hm1, hm2, ht⟩ := pathV_iff.1 hp
  simp only at hm1 hm2
  obtain ⟨s, rfl⟩ : ∃ s, n = s + 1 := ⟨n - 1, by omega⟩
  obtain rfl : n1 = s + 1 := by omega
  obtain rfl : n2 = s + 1 := by omega
  have hT0 := pathV_times hp (k := 0) (by omega)
  have hTs := pathV_times hp (k := s) (by omega)
  have hU0 := pathV_times hp2 (k := 0) (by omega)
  have hUs := pathV_times hp2 (k := s) (by omega)
  have hst := stands_late f1 f2 k s
  have hsb := stands_bd hp s (by omega)
  simp only [lateD] at hT0 hTs hU0 hUs hsb
  have PV := Lib.hid hp
  have PV2 := Lib.hid (show pathV (s + 1 : Nat) ⟨s + 1, fun j => f1 j + k, s + 1, fun j => f2 j + k⟩ = true from hp2)
  have ST := Lib.hid hst
  have I : Hid (∀ (W : World) (A : Option Addr) (c : Nat) (B : Option Addr) (d : Nat), Rn W W.heap.size A (s + 1) f1 → Rn W W.heap.size B (s + 1) f2 → Calls Try.prog 29 #[.int .i64 ((s + 1 : Nat) : Int), .agg #[.slice A (s + 1) c, .slice B (s + 1) d], .int .i64 k] W (PathRes W true (s + 1) (fun j => f1 j + k) (s + 1) (fun j => f2 j + k))) := fun W A c B d p q => iLate_go true A B (s + 1) c d f1 f2 k W p q hp hk hp2
  have S : Hid (∀ (W : World) (A : Option Addr) (c : Nat) (B : Option Addr) (d : Nat), Rn W W.heap.size A (s + 1) f1 → Rn W W.heap.size B (s + 1) f2 → Calls Try.prog 30 #[.int .i64 ((s + 1 : Nat) : Int), .agg #[.slice A (s + 1) c, .slice B (s + 1) d], .int .i64 k] W (PathRes W true (s + 1) (fun j => f1 j + k) (s + 1) (fun j => f2 j + k))) := fun W A c B d p q => sLate_go true A B (s + 1) c d f1 f2 k W p q hp hk hp2
  have J : Hid (∀ (W : World) (A : Option Addr) (c : Nat) (B : Option Addr) (d : Nat), Rn W W.heap.size A (s + 1) (fun j => f1 j + k) → Rn W W.heap.size B (s + 1) (fun j => f2 j + k) → Calls Try.prog 29 #[.int .i64 ((s + 1 : Nat) : Int), .agg #[.slice A (s + 1) c, .slice B (s + 1) d], .int .i64 (-k)] W (PathRes W true (s + 1) f1 (s + 1) f2)) := fun W A c B d p q => by
    have h : Calls Try.prog 29 #[.int .i64 ((s + 1 : Nat) : Int), .agg #[.slice A (s + 1) c, .slice B (s + 1) d], .int .i64 (-k)] W (PathRes W true (s + 1) (fun j => f1 j + k + -k) (s + 1) (fun j => f2 j + k + -k)) := iLate_go true A B (s + 1) c d _ _ (-k) W p q hp2 (by omega) (late_back hp)
    have e1 : (fun j => (fun j => f1 j + k) j + -k) = f1 := funext fun j => by simp only; omega
    have e2 : (fun j => (fun j => f2 j + k) j + -k) = f2 := funext fun j => by simp only; omega
    rw [show (fun j => f1 j + k + -k) = f1 from e1, show (fun j => f2 j + k + -k) = f2 from e2] at h
    exact h
  have B0 : Below wb.heap.size wb wb := Below.refl _ _
  have H0 : Hold wb [rnA wb.heap.size a1 (s + 1) f1, rnA wb.heap.size a2 (s + 1) f2] := ((Hold.nil wb).rn (Nat.le_refl _) r2).rn (Nat.le_refl _) r1
  have HB := Lib.hid hb
  clear hno hp hp2 ht hm1 hm2 hst r1 r2 hb
  go_wp2_with fail
  refine (I.out _ _ _ _ _ (H0.rnup.top _) (H0.tl.rnup.top _)).mono ?_
  rintro e w1 ⟨aG, cG, bG, dG, rfl, ho, hn⟩
  have H1 := (H0.new [.slice a1 (s + 1) c1, .slice a2 (s + 1) c2] 31).call hn
  have B1 : Below wb.heap.size wb w1 := bl (by go_grown) (by first | exact Nat.le_refl _ | (simp; done) | (simp; omega)) hn
  have s1 : wb.heap.size + 1 ≤ w1.heap.size := by have := hn.size; simpa using this
  (try simp only [World.size_alloc] at ho)
  have H1 := H1.op (Nat.le_refl _) ho
  clear hn ho
  clear H0
  obtain ⟨xP1, yP1⟩ := H1.tl.bx2
  have lP1 := H1.tl.bxlt
  go_wp2_with fail
  refine (S.out _ _ _ _ _ (H1.tl.tl.rnup.top _) (H1.tl.tl.tl.rnup.top _)).mono ?_
  rintro e w2 ⟨aW, cW, bW, dW, rfl, ho, hn⟩
  have H2 := (H1.new [.slice aG (s + 1) cG, .slice bG (s + 1) dG] 31).call hn
  have B2 : Below wb.heap.size wb w2 := bl (by go_grown) (by first | exact Nat.le_refl _ | (simp; done) | (simp; omega)) hn
  have s2 : w1.heap.size + 1 ≤ w2.heap.size := by have := hn.size; simpa using this
  (try simp only [World.size_alloc] at ho)
  have H2 := H2.op (Nat.le_refl _) ho
  clear hn ho
  clear H1
  obtain ⟨xg2, yg2⟩ := H2.tl.bx2
  have lg2 := H2.tl.bxlt
  obtain ⟨xP2, yP2⟩ := H2.tl.tl.tl.bx2
  have lP2 := H2.tl.tl.tl.bxlt
  go_wp2_with fail
  refine (samePath_self _ _ _ _ _ _ _ _ _ _ _ _ _ (H2.tl.tl.op1.top _) (H2.tl.tl.op2.top _) (H2.op1.top _) (H2.op2.top _) (by omega) (by omega)).mono ?_
  rintro e w3 ⟨rfl, hn⟩
  have H3 := (H2.new [.slice aW (s + 1) cW, .slice bW (s + 1) dW] 31).call hn
  have B3 : Below wb.heap.size wb w3 := bl (by go_grown) (by first | exact Nat.le_refl _ | (simp; done) | (simp; omega)) hn
  have s3 : w2.heap.size + 1 ≤ w3.heap.size := by have := hn.size; simpa using this
  clear hn
  clear H2
  obtain ⟨xw03, yw03⟩ := H3.bx2
  have lw03 := H3.bxlt
  obtain ⟨xg3, yg3⟩ := H3.tl.tl.bx2
  have lg3 := H3.tl.tl.bxlt
  obtain ⟨xP3, yP3⟩ := H3.tl.tl.tl.tl.bx2
  have lP3 := H3.tl.tl.tl.tl.bxlt
  go_wp2_with fail
  refine (J.out _ _ _ _ _ H3.tl.tl.tl.op1 H3.tl.tl.tl.op2).mono ?_
  rintro e w4 ⟨aX, cX, bX, dX, rfl, ho, hn⟩
  have H4 := H3.call hn
  have B4 : Below wb.heap.size wb w4 := bl (by go_grown) (by first | exact Nat.le_refl _ | (simp; done) | (simp; omega)) hn
  have s4 : w3.heap.size ≤ w4.heap.size := by have := hn.size; simpa using this
  (try simp only [World.size_alloc] at ho)
  have H4 := H4.op (Nat.le_refl _) ho
  clear hn ho
  clear H3
  obtain ⟨xw04, yw04⟩ := H4.tl.bx2
  have lw04 := H4.tl.bxlt
  obtain ⟨xg4, yg4⟩ := H4.tl.tl.tl.bx2
  have lg4 := H4.tl.tl.tl.bxlt
  obtain ⟨xP4, yP4⟩ := H4.tl.tl.tl.tl.tl.bx2
  have lP4 := H4.tl.tl.tl.tl.tl.bxlt
  have HV0 := (H4.new [.slice aX (s + 1) cX, .slice bX (s + 1) dX] 31)
  have BV0 : Below wb.heap.size wb (w4.alloc (.cells #[.slice aX (s + 1) cX, .slice bX (s + 1) dX] 31)) := by go_grown
  have lw1 := B4.size
  go_wp2_with fail
  generalize hV : w4.alloc (.cells #[.slice aX (s + 1) cX, .slice bX (s + 1) dX] 31) = V at *
  clear hV H4 B4
  obtain ⟨x0, x1⟩ := HV0.bx2
  obtain ⟨g0, g1⟩ := HV0.tl.tl.tl.tl.bx2
  obtain ⟨p0, p1⟩ := HV0.tl.tl.tl.tl.tl.tl.bx2
  have lx := HV0.bxlt
  have lg := HV0.tl.tl.tl.tl.bxlt
  have lp := HV0.tl.tl.tl.tl.tl.tl.bxlt
  have HV := Lib.hid HV0
  obtain ⟨eq1, oq1, Eq1, lq1, cq1⟩ := HV0.tl.tl.tl.tl.tl.op2 (by omega)
  have zq1 : V.cell? ⟨eq1, oq1 + s, none⟩ = some (.int .i64 (f2 s + k)) := cq1 s (by omega)
  obtain ⟨eq2, oq2, Eq2, lq2, cq2⟩ := HV0.tl.tl.tl.tl.tl.op1 (by omega)
  have zq2 : V.cell? ⟨eq2, oq2 + 0, none⟩ = some (.int .i64 (f1 0 + k)) := cq2 0 (by omega)
  obtain ⟨eq3, oq3, Eq3, lq3, cq3⟩ := HV0.tl.tl.tl.tl.tl.tl.tl.tl.rnup (by omega)
  have zq3 : V.cell? ⟨eq3, oq3 + s, none⟩ = some (.int .i64 (f2 s)) := cq3 s (by omega)
  obtain ⟨eq4, oq4, Eq4, lq4, cq4⟩ := HV0.tl.tl.tl.tl.tl.tl.tl.rnup (by omega)
  have zq4 : V.cell? ⟨eq4, oq4 + 0, none⟩ = some (.int .i64 (f1 0)) := cq4 0 (by omega)
  simp only [Nat.add_zero] at zq2 zq4
  have SG := Lib.hid Eq1
  subst Eq1
  subst Eq2
  subst Eq3
  subst Eq4
  clear HV0 cq1 cq2 cq3 cq4 SG
  obtain ⟨u, hu⟩ : ∃ u, stands f1 f2 s = u := ⟨_, rfl⟩
  have C1 : Hid (∀ (W : World) (A : Option Addr) (c : Nat) (B : Option Addr) (d : Nat), Rn W W.heap.size A (s + 1) (fun j => f1 j + k) → Rn W W.heap.size B (s + 1) (fun j => f2 j + k) → Calls Try.prog 32 #[.int .i64 ((s : Int) + 1), .agg #[.slice A (s + 1) c, .slice B (s + 1) d]] W fun e w' => e = .returned (.int .i64 u) ∧ Below W.heap.size W w') := fun W A c B d p q => by have := iStands A B s c d _ _ W p q PV2.out; rw [ST.out, hu] at this; exact this
  have C2 : Hid (∀ (W : World) (A : Option Addr) (c : Nat) (B : Option Addr) (d : Nat), Rn W W.heap.size A (s + 1) f1 → Rn W W.heap.size B (s + 1) f2 → Calls Try.prog 32 #[.int .i64 ((s : Int) + 1), .agg #[.slice A (s + 1) c, .slice B (s + 1) d]] W fun e w' => e = .returned (.int .i64 u) ∧ Below W.heap.size W w') := fun W A c B d p q => by have := iStands A B s c d _ _ W p q PV.out; rw [hu] at this; exact this
  have r0 : (0 : Int) ≤ (s : Int) := by omega
  have r1' : (s : Int) < (s : Int) + 1 := by omega
  have r2' : (0 : Int) < (s : Int) + 1 := by omega
  have r3 : s < s + 1 := by omega
  have r4 : 0 < s + 1 := by omega
  have y1 : IntKind.i64.wrap ((s : Int) + 1 - 1) = (s : Int) := by rw [show (s : Int) + 1 - 1 = s by omega]; exact IntWalk.i64_in _ (by omega)
  have y2 : IntKind.i64.wrap (s : Int) = (s : Int) := IntWalk.i64_in _ (by omega)
  generalize f1 0 = t0 at *
  generalize f2 s = ts at *
  have y3 : IntKind.i64.wrap (ts + k - (t0 + k)) = ts - t0 := by rw [show ts + k - (t0 + k) = ts - t0 by omega]; exact IntWalk.i64_in _ (by omega)
  have y4 : IntKind.i64.wrap (ts - t0) = ts - t0 := IntWalk.i64_in _ (by omega)
  clear hu I S J PV PV2 ST
  go_region_held3 (fun V' => V'.cell? ⟨w4.heap.size, 0, none⟩ = some (.slice aX (s + 1) cX) ∧ V'.cell? ⟨w4.heap.size, 1, none⟩ = some (.slice bX (s + 1) dX) ∧ V'.cell? ⟨w1.heap.size, 0, none⟩ = some (.slice (some ⟨eq2, oq2, none⟩) (s + 1) cG) ∧ V'.cell? ⟨w1.heap.size, 1, none⟩ = some (.slice (some ⟨eq1, oq1, none⟩) (s + 1) dG) ∧ V'.cell? ⟨wb.heap.size, 0, none⟩ = some (.slice (some ⟨eq4, oq4, none⟩) (s + 1) c1) ∧ V'.cell? ⟨wb.heap.size, 1, none⟩ = some (.slice (some ⟨eq3, oq3, none⟩) (s + 1) c2) ∧ V'.cell? ⟨eq1, oq1 + s, none⟩ = some (.int .i64 (ts + k)) ∧ V'.cell? ⟨eq2, oq2, none⟩ = some (.int .i64 (t0 + k)) ∧ V'.cell? ⟨eq3, oq3 + s, none⟩ = some (.int .i64 (ts)) ∧ V'.cell? ⟨eq4, oq4, none⟩ = some (.int .i64 (t0))) (go_keep)
    (first
      | (go_at_call 31; refine (samePath_self aX bX _ _ (s + 1) cX (s + 1) dX c1 c2 f1 f2 _ (HV.out.tl.op1).topd (HV.out.tl.op2).topd (HV.out.tl.tl.tl.tl.tl.tl.tl.rnup).topd (HV.out.tl.tl.tl.tl.tl.tl.tl.tl.rnup).topd (by omega) (by omega)).mono ?_; rintro e v1 ⟨rfl, hn⟩; have hB1 : Below V.heap.size V v1 := undrew hn; have K1 := Lib.hid (HV.out.call hB1); have := (hB1.cell (p := ⟨w4.heap.size, 0, none⟩) (by omega)).trans x0; have := (hB1.cell (p := ⟨w4.heap.size, 1, none⟩) (by omega)).trans x1; have := (hB1.cell (p := ⟨w1.heap.size, 0, none⟩) (by omega)).trans g0; have := (hB1.cell (p := ⟨w1.heap.size, 1, none⟩) (by omega)).trans g1; have := (hB1.cell (p := ⟨wb.heap.size, 0, none⟩) (by omega)).trans p0; have := (hB1.cell (p := ⟨wb.heap.size, 1, none⟩) (by omega)).trans p1; have := (hB1.cell (p := ⟨eq1, oq1 + s, none⟩) lq1).trans zq1; have := (hB1.cell (p := ⟨eq2, oq2, none⟩) lq2).trans zq2; have := (hB1.cell (p := ⟨eq3, oq3 + s, none⟩) lq3).trans zq3; have := (hB1.cell (p := ⟨eq4, oq4, none⟩) lq4).trans zq4; clear hn)
      | (go_at_call 32; (with_reducible refine (C1.out _ (some ⟨eq2, oq2, none⟩) cG (some ⟨eq1, oq1, none⟩) dG ?_ ?_).mono ?_); (first | exact (K1.out.tl.tl.tl.tl.tl.op1) | exact (K3.out.tl.tl.tl.tl.tl.op1)); (first | exact (K1.out.tl.tl.tl.tl.tl.op2) | exact (K3.out.tl.tl.tl.tl.tl.op2)); rintro e v2 ⟨rfl, hn⟩; have hB2 : Below V.heap.size V v2 := (by first | exact bl hB1 (Nat.le_refl _) hn | exact bl hB3 (Nat.le_refl _) hn); have K2 := Lib.hid (HV.out.call hB2); have := (hB2.cell (p := ⟨w4.heap.size, 0, none⟩) (by omega)).trans x0; have := (hB2.cell (p := ⟨w4.heap.size, 1, none⟩) (by omega)).trans x1; have := (hB2.cell (p := ⟨w1.heap.size, 0, none⟩) (by omega)).trans g0; have := (hB2.cell (p := ⟨w1.heap.size, 1, none⟩) (by omega)).trans g1; have := (hB2.cell (p := ⟨wb.heap.size, 0, none⟩) (by omega)).trans p0; have := (hB2.cell (p := ⟨wb.heap.size, 1, none⟩) (by omega)).trans p1; have := (hB2.cell (p := ⟨eq1, oq1 + s, none⟩) lq1).trans zq1; have := (hB2.cell (p := ⟨eq2, oq2, none⟩) lq2).trans zq2; have := (hB2.cell (p := ⟨eq3, oq3 + s, none⟩) lq3).trans zq3; have := (hB2.cell (p := ⟨eq4, oq4, none⟩) lq4).trans zq4; clear hn)
      | (go_at_call 32; (with_reducible refine (C2.out _ (some ⟨eq4, oq4, none⟩) c1 (some ⟨eq3, oq3, none⟩) c2 ?_ ?_).mono ?_); (first | exact (K1.out.tl.tl.tl.tl.tl.tl.tl.rnup) | exact (K2.out.tl.tl.tl.tl.tl.tl.tl.rnup)); (first | exact (K1.out.tl.tl.tl.tl.tl.tl.tl.tl.rnup) | exact (K2.out.tl.tl.tl.tl.tl.tl.tl.tl.rnup)); rintro e v3 ⟨rfl, hn⟩; have hB3 : Below V.heap.size V v3 := (by first | exact bl hB1 (Nat.le_refl _) hn | exact bl hB2 (Nat.le_refl _) hn); have K3 := Lib.hid (HV.out.call hB3); have := (hB3.cell (p := ⟨w4.heap.size, 0, none⟩) (by omega)).trans x0; have := (hB3.cell (p := ⟨w4.heap.size, 1, none⟩) (by omega)).trans x1; have := (hB3.cell (p := ⟨w1.heap.size, 0, none⟩) (by omega)).trans g0; have := (hB3.cell (p := ⟨w1.heap.size, 1, none⟩) (by omega)).trans g1; have := (hB3.cell (p := ⟨wb.heap.size, 0, none⟩) (by omega)).trans p0; have := (hB3.cell (p := ⟨wb.heap.size, 1, none⟩) (by omega)).trans p1; have := (hB3.cell (p := ⟨eq1, oq1 + s, none⟩) lq1).trans zq1; have := (hB3.cell (p := ⟨eq2, oq2, none⟩) lq2).trans zq2; have := (hB3.cell (p := ⟨eq3, oq3 + s, none⟩) lq3).trans zq3; have := (hB3.cell (p := ⟨eq4, oq4, none⟩) lq4).trans zq4; clear hn))
  all_goals
    clear y1 y2 y3 y4
    go_wp2
    go_ret
    first | exact ⟨rfl, bl (bl HB.out (Nat.le_refl _) BV0) (Nat.le_refl _) hB2⟩ | exact ⟨rfl, bl (bl HB.out (Nat.le_refl _) BV0) (Nat.le_refl _) hB3⟩
theorem w_FnPathLate (a0 : Option Addr) (len0 cap0 : Nat) (z0 : List Int) (w : World) (w0 : IsRow .u8 w a0 len0 cap0 z0) :
    Calls Try.prog 6 #[.slice a0 len0 cap0] w fun e w' => e = .returned (.bool true) ∧ Below w.heap.size w w' := by
  obtain ⟨hA, hc, hm⟩ := w0.bytes
  by_cases hs0 : 1048576 < len0
  · have hd0 : decide ((1048576 : Int) < (len0 : Int)) = true := by simp; omega
    clear w0 hA
    go_enter Try.func6, Try.ntmps6
    go_wp2
    go_ret
    exact ⟨rfl, Below.refl _ _⟩
  · exact y_FnPathLate a0 len0 cap0 w hA (by omega) hc hm
end Go.Proofs.Ytjppkcfbhhjniaa
