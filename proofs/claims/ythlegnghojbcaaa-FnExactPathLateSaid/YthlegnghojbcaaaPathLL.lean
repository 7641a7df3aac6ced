/-
  The walk of FnExactPathLate.
-/
import Derived.Test.YthlegnghojbcaaaPathLS
import Derived.Test.YthlegnghojbcaaaHold
namespace Go.Proofs.Ythlegnghojbcaaa
open Go.RowKit
set_option linter.unusedVariables false

theorem IsRow.rn {w : World} {a : Option Addr} {len cap : Nat} {zs : List Int} (h : IsRow .i64 w a len cap zs) : Rn w w.heap.size a len (fun i => zs.getD i 0) ∧ len ≤ cap ∧ cap ≤ 9223372036854775807 := by
  rcases h with ⟨rfl, rfl, rfl, rfl⟩ | ⟨x, rfl, h1, h2, h3, h4, h5⟩
  · exact ⟨fun h => absurd h (by omega), by omega, by omega⟩
  refine ⟨fun hn => ?_, h1, by unfold maxLen at h2; omega⟩
  obtain ⟨b, off, spot⟩ := x
  have hc := h4 0 (by omega)
  have hspot : spot = none := by simpa [Addr.add] using World.cell?_spot hc
  subst hspot
  refine ⟨b, off, rfl, World.block_lt_of_cell? w _ (by simpa [Addr.add] using hc), fun i hi => ?_⟩
  have hci := h4 i (by omega)
  have he : (⟨b, off, none⟩ : Addr).add i = ⟨b, off + i, none⟩ := by unfold Addr.add; split <;> simp_all
  rw [← he]; exact hci
theorem eqPath_self (a1 a2 d1 d2 : Option Addr) (n1 c1 n2 c2 e1 e2 : Nat) (f1 f2 : Nat → Int) (w : World) (r1 : Rn w w.heap.size a1 n1 f1) (r2 : Rn w w.heap.size a2 n2 f2) (s1 : Rn w w.heap.size d1 n1 f1) (s2 : Rn w w.heap.size d2 n2 f2)
    (hn1 : n1 ≤ 1099511627776) (hn2 : n2 ≤ 1099511627776) :
    Calls Try.prog 16 #[.agg #[.slice a1 n1 c1, .slice a2 n2 c2], .agg #[.slice d1 n1 e1, .slice d2 n2 e2]] w fun e w' => e = .returned (.bool true) ∧ Below w.heap.size w w' :=
  (eqPath_any a1 a2 d1 d2 n1 c1 n2 c2 n1 e1 n2 e2 f1 f2 f1 f2 w r1 r2 s1 s2 hn1 hn2 hn1 hn2).mono fun _ _ ⟨he, hw⟩ => ⟨by rw [he, eqP_self], hw⟩
set_option maxHeartbeats 4000000 in
theorem x_FnExactPathLate (n k : Int) (a1 a2 : Option Addr) (n1 c1 n2 c2 : Nat) (f1 f2 : Nat → Int) (w : World) (r1 : Rn w w.heap.size a1 n1 f1) (r2 : Rn w w.heap.size a2 n2 f2) (hsz : (n1 : Int) + n2 ≤ 1048576)
    (ok : Bool) (m1 m2 : Nat) (g1 g2 : Nat → Int) (hm1 : m1 ≤ 1000000) (hm2 : m2 ≤ 1000000)
    (hS : ∀ (W : World) (b1 b2 : Option Addr) (d1 d2 : Nat), Rn W W.heap.size b1 n1 f1 → Rn W W.heap.size b2 n2 f2 → Calls Try.prog 13 #[.int .i64 n, .agg #[.slice b1 n1 d1, .slice b2 n2 d2], .int .i64 k] W (PathRes W ok m1 g1 m2 g2))
    (hI : ∀ (W : World) (b1 b2 : Option Addr) (d1 d2 : Nat), Rn W W.heap.size b1 n1 f1 → Rn W W.heap.size b2 n2 f2 → Calls Try.prog 15 #[.int .i64 n, .agg #[.slice b1 n1 d1, .slice b2 n2 d2], .int .i64 k] W (PathRes W ok m1 g1 m2 g2)) :
    Calls Try.prog 3 #[.int .i64 n, .agg #[.slice a1 n1 c1, .slice a2 n2 c2], .int .i64 k] w fun e w' => e = .returned (.bool true) ∧ Below w.heap.size w w' := by
  have H0 : Hold w [rnA w.heap.size a2 n2 f2, rnA w.heap.size a1 n1 f1] := ((Hold.nil w).rn (Nat.le_refl _) r1).rn (Nat.le_refl _) r2
  have S := Lib.hid hS
  have I := Lib.hid hI
  clear hS hI r1 r2
  go_enter Try.func3, Try.ntmps3
  have B0 : Below w.heap.size w w := Below.refl _ _
  go_wp2_with fail
  refine (szPath_yes a1 a2 n1 c1 n2 c2 1048576 _ hsz (by omega)).mono ?_
  rintro e w1 ⟨rfl, hn⟩
  have H1 := (H0.new [.slice a1 n1 c1, .slice a2 n2 c2] 24).call hn
  have B1 : Below w.heap.size w w1 := bl (by go_grown) (by first | exact Nat.le_refl _ | (simp; done) | (simp; omega)) hn
  have s1 : w.heap.size + 1 ≤ w1.heap.size := by have := hn.size; simpa using this
  clear hn
  clear H0
  obtain ⟨xa1, ya1⟩ := H1.bx2
  have la1 := H1.bxlt
  go_wp2_with fail
  refine (toPath_any a1 a2 n1 c1 n2 c2 f1 f2 _ H1.tl.tl.rnup H1.tl.rnup (by omega) (by omega)).mono ?_
  rintro e w2 ⟨p1, q1, rfl, ho, hn⟩
  have H2 := H1.call hn
  have B2 : Below w.heap.size w w2 := bl (by go_grown) (by first | exact Nat.le_refl _ | (simp; done) | (simp; omega)) hn
  have s2 : w1.heap.size ≤ w2.heap.size := by have := hn.size; simpa using this
  (try simp only [World.size_alloc] at ho)
  have H2 := H2.op (Nat.le_refl _) ho
  clear hn ho
  clear H1
  obtain ⟨xa2, ya2⟩ := H2.tl.bx2
  have la2 := H2.tl.bxlt
  go_wp2_with fail
  refine (S.out _ _ _ _ _ H2.op1 H2.op2).mono ?_
  rintro e w3 ⟨aW, cW, bW, dW, rfl, ho, hn⟩
  have H3 := H2.call hn
  have B3 : Below w.heap.size w w3 := bl (by go_grown) (by first | exact Nat.le_refl _ | (simp; done) | (simp; omega)) hn
  have s3 : w2.heap.size ≤ w3.heap.size := by have := hn.size; simpa using this
  (try simp only [World.size_alloc] at ho)
  have H3 := H3.op (Nat.le_refl _) ho
  clear hn ho
  clear H2
  obtain ⟨xa3, ya3⟩ := H3.tl.tl.bx2
  have la3 := H3.tl.tl.bxlt
  go_wp2_with fail
  refine (toPath_any a1 a2 n1 c1 n2 c2 f1 f2 _ (H3.tl.tl.tl.tl.rnup.top _) (H3.tl.tl.tl.rnup.top _) (by omega) (by omega)).mono ?_
  rintro e w4 ⟨p2, q2, rfl, ho, hn⟩
  have H4 := (H3.new [.slice aW m1 cW, .slice bW m2 dW] 26).call hn
  have B4 : Below w.heap.size w w4 := bl (by go_grown) (by first | exact Nat.le_refl _ | (simp; done) | (simp; omega)) hn
  have s4 : w3.heap.size + 1 ≤ w4.heap.size := by have := hn.size; simpa using this
  (try simp only [World.size_alloc] at ho)
  have H4 := H4.op (Nat.le_refl _) ho
  clear hn ho
  clear H3
  obtain ⟨xw04, yw04⟩ := H4.tl.bx2
  have lw04 := H4.tl.bxlt
  obtain ⟨xa4, ya4⟩ := H4.tl.tl.tl.tl.bx2
  have la4 := H4.tl.tl.tl.tl.bxlt
  go_wp2_with fail
  refine (I.out _ _ _ _ _ (H4.op1.top _) (H4.op2.top _)).mono ?_
  rintro e w5 ⟨aG, cG, bG, dG, rfl, ho, hn⟩
  have H5 := (H4.new [.slice (some ⟨p2, 0, none⟩) n1 n1, .slice (some ⟨q2, 0, none⟩) n2 n2] 26).call hn
  have B5 : Below w.heap.size w w5 := bl (by go_grown) (by first | exact Nat.le_refl _ | (simp; done) | (simp; omega)) hn
  have s5 : w4.heap.size + 1 ≤ w5.heap.size := by have := hn.size; simpa using this
  (try simp only [World.size_alloc] at ho)
  have H5 := H5.op (Nat.le_refl _) ho
  clear hn ho
  clear H4
  obtain ⟨xx5, yx5⟩ := H5.tl.bx2
  have lx5 := H5.tl.bxlt
  obtain ⟨xw05, yw05⟩ := H5.tl.tl.tl.bx2
  have lw05 := H5.tl.tl.tl.bxlt
  obtain ⟨xa5, ya5⟩ := H5.tl.tl.tl.tl.tl.tl.bx2
  have la5 := H5.tl.tl.tl.tl.tl.tl.bxlt
  go_wp2_with fail
  refine (eqPath_self _ _ _ _ _ _ _ _ _ _ _ _ _ (H5.op1.top _) (H5.op2.top _) (H5.tl.tl.tl.tl.op1.top _) (H5.tl.tl.tl.tl.op2.top _) (by omega) (by omega)).mono ?_
  rintro e w6 ⟨rfl, hn⟩
  have H6 := (H5.new [.slice aG m1 cG, .slice bG m2 dG] 26).call hn
  have B6 : Below w.heap.size w w6 := bl (by go_grown) (by first | exact Nat.le_refl _ | (simp; done) | (simp; omega)) hn
  have s6 : w5.heap.size + 1 ≤ w6.heap.size := by have := hn.size; simpa using this
  clear hn
  clear H5
  obtain ⟨xg6, yg6⟩ := H6.bx2
  have lg6 := H6.bxlt
  obtain ⟨xx6, yx6⟩ := H6.tl.tl.bx2
  have lx6 := H6.tl.tl.bxlt
  obtain ⟨xw06, yw06⟩ := H6.tl.tl.tl.tl.bx2
  have lw06 := H6.tl.tl.tl.tl.bxlt
  obtain ⟨xa6, ya6⟩ := H6.tl.tl.tl.tl.tl.tl.tl.bx2
  have la6 := H6.tl.tl.tl.tl.tl.tl.tl.bxlt
  go_wp2_with fail
  go_region_held3 (fun V => V.cell? ⟨w4.heap.size, 0, none⟩ = some (.slice (some ⟨p2, 0, none⟩) n1 n1) ∧ V.cell? ⟨w4.heap.size, 1, none⟩ = some (.slice (some ⟨q2, 0, none⟩) n2 n2) ∧ V.cell? ⟨w.heap.size, 0, none⟩ = some (.slice a1 n1 c1) ∧ V.cell? ⟨w.heap.size, 1, none⟩ = some (.slice a2 n2 c2)) (go_keep)
    (first | (go_at_call 14; refine (toPath_any a1 a2 n1 c1 n2 c2 f1 f2 _ (Rn.topd H6.tl.tl.tl.tl.tl.tl.tl.tl.tl.rnup) (Rn.topd H6.tl.tl.tl.tl.tl.tl.tl.tl.rnup) (by omega) (by omega)).mono ?_; rintro e w7 ⟨p3, q3, rfl, ho, hn⟩; have hn := undrew hn; have H7 := (H6.call hn).op (Nat.le_refl _) ho; have B7 : Below w.heap.size w w7 := bl B6 (by have := B6.size; omega) hn; have s7 := hn.size; obtain ⟨xx7, yx7⟩ := H7.tl.tl.tl.bx2; obtain ⟨xa7, ya7⟩ := H7.tl.tl.tl.tl.tl.tl.tl.tl.bx2; clear hn ho) | (go_at_call 16; refine (eqPath_self _ _ _ _ _ _ _ _ _ _ _ _ _ H7.tl.tl.tl.tl.op1 H7.tl.tl.tl.tl.op2 H7.op1 H7.op2 (by omega) (by omega)).mono ?_; rintro e w8 ⟨rfl, hn⟩; have H8 := H7.call hn; have B8 : Below w.heap.size w w8 := bl B7 (by have := B7.size; omega) hn; have s8 := hn.size; obtain ⟨xx8, yx8⟩ := H8.tl.tl.tl.bx2; obtain ⟨xa8, ya8⟩ := H8.tl.tl.tl.tl.tl.tl.tl.tl.bx2; clear hn))
  clear H6 H7 xx8 yx8 xa8 ya8
  obtain ⟨xg8, yg8⟩ := H8.tl.bx2
  have lg8 := H8.tl.bxlt
  obtain ⟨xx8, yx8⟩ := H8.tl.tl.tl.bx2
  have lx8 := H8.tl.tl.tl.bxlt
  obtain ⟨xw08, yw08⟩ := H8.tl.tl.tl.tl.tl.bx2
  have lw08 := H8.tl.tl.tl.tl.tl.bxlt
  obtain ⟨xa8, ya8⟩ := H8.tl.tl.tl.tl.tl.tl.tl.tl.bx2
  have la8 := H8.tl.tl.tl.tl.tl.tl.tl.tl.bxlt
  go_wp2_with fail
  refine (markPath_any _ _ _ _ _ _ _ _ _ _ 1 _ H8.tl.tl.tl.tl.opP (Hold.hi H8.tl.tl.tl.tl) (by omega) (by omega) (by omega) (by omega)).mono ?_
  rintro e w9 ⟨rfl, ho, hm⟩
  have H9 := (H8.front4.tl.mid hm (((((((((((Apart.nil _ _).cons (.inl (show w.heap.size ≤ w3.heap.size + 1 by omega))).cons (.inl (show w.heap.size ≤ w3.heap.size + 1 by omega))).cons (.inl (show w.heap.size + 1 ≤ w3.heap.size + 1 by omega))).cons (.inl (show w2.heap.size ≤ w3.heap.size + 1 by omega))).cons (.inl (show w3.heap.size ≤ w3.heap.size + 1 by omega))).cons (.inl (show w3.heap.size + 1 ≤ w3.heap.size + 1 by omega))).cons (.inr (show w4.heap.size ≤ w4.heap.size by omega))).cons (.inr (show w4.heap.size ≤ w4.heap.size + 1 by omega))).cons (.inr (show w4.heap.size ≤ w5.heap.size by omega))).cons (.inr (show w4.heap.size ≤ w6.heap.size by omega)))).op (Nat.le_trans H8.tl.tl.tl.tl.hi hm.size) ho
  have B9 : Below w.heap.size w w9 := B8.trans (hm.below (by omega) (by omega))
  have s9 := hm.size
  clear hm ho
  clear H8
  obtain ⟨xg9, yg9⟩ := H9.tl.tl.bx2
  have lg9 := H9.tl.tl.bxlt
  obtain ⟨xx9, yx9⟩ := H9.tl.tl.tl.tl.bx2
  have lx9 := H9.tl.tl.tl.tl.bxlt
  obtain ⟨xw09, yw09⟩ := H9.tl.tl.tl.tl.tl.bx2
  have lw09 := H9.tl.tl.tl.tl.tl.bxlt
  obtain ⟨xa9, ya9⟩ := H9.tl.tl.tl.tl.tl.tl.tl.tl.bx2
  have la9 := H9.tl.tl.tl.tl.tl.tl.tl.tl.bxlt
  go_wp2_with fail
  refine (eqPath_self _ _ _ _ _ _ _ _ _ _ _ _ _ H9.tl.tl.tl.op1 H9.tl.tl.tl.op2 H9.tl.tl.tl.tl.tl.tl.op1 H9.tl.tl.tl.tl.tl.tl.op2 (by omega) (by omega)).mono ?_
  rintro e w10 ⟨rfl, hn⟩
  have H10 := H9.call hn
  have B10 : Below w.heap.size w w10 := bl (by go_grown) (by first | exact Nat.le_refl _ | (simp; done) | (simp; omega)) hn
  have s10 : w9.heap.size ≤ w10.heap.size := by have := hn.size; simpa using this
  clear hn
  clear H9
  obtain ⟨xg10, yg10⟩ := H10.tl.tl.bx2
  have lg10 := H10.tl.tl.bxlt
  obtain ⟨xx10, yx10⟩ := H10.tl.tl.tl.tl.bx2
  have lx10 := H10.tl.tl.tl.tl.bxlt
  obtain ⟨xw010, yw010⟩ := H10.tl.tl.tl.tl.tl.bx2
  have lw010 := H10.tl.tl.tl.tl.tl.bxlt
  obtain ⟨xa10, ya10⟩ := H10.tl.tl.tl.tl.tl.tl.tl.tl.bx2
  have la10 := H10.tl.tl.tl.tl.tl.tl.tl.tl.bxlt
  go_wp2_with fail
  refine (markPath_any _ _ _ _ _ _ _ _ _ _ 1 _ H10.tl.tl.tl.opP (Hold.hi H10.tl.tl.tl) (by omega) (by omega) (by omega) (by omega)).mono ?_
  rintro e w11 ⟨rfl, ho, hm⟩
  have H11 := (H10.front3.tl.mid hm (((((((((((Apart.nil _ _).cons (.inl (show w.heap.size ≤ w4.heap.size + 1 by omega))).cons (.inl (show w.heap.size ≤ w4.heap.size + 1 by omega))).cons (.inl (show w.heap.size + 1 ≤ w4.heap.size + 1 by omega))).cons (.inl (show w2.heap.size ≤ w4.heap.size + 1 by omega))).cons (.inl (show w3.heap.size ≤ w4.heap.size + 1 by omega))).cons (.inl (show w3.heap.size + 1 ≤ w4.heap.size + 1 by omega))).cons (.inl (show w4.heap.size + 1 ≤ w4.heap.size + 1 by omega))).cons (.inr (show w5.heap.size ≤ w5.heap.size by omega))).cons (.inr (show w5.heap.size ≤ w6.heap.size by omega))).cons (.inl (show w4.heap.size ≤ w4.heap.size + 1 by omega)))).op (Nat.le_trans H10.tl.tl.tl.hi hm.size) ho
  have B11 : Below w.heap.size w w11 := B10.trans (hm.below (by omega) (by omega))
  have s11 := hm.size
  clear hm ho
  clear H10
  obtain ⟨xg11, yg11⟩ := H11.tl.tl.tl.bx2
  have lg11 := H11.tl.tl.tl.bxlt
  obtain ⟨xx11, yx11⟩ := H11.tl.tl.tl.tl.bx2
  have lx11 := H11.tl.tl.tl.tl.bxlt
  obtain ⟨xw011, yw011⟩ := H11.tl.tl.tl.tl.tl.bx2
  have lw011 := H11.tl.tl.tl.tl.tl.bxlt
  obtain ⟨xa11, ya11⟩ := H11.tl.tl.tl.tl.tl.tl.tl.tl.bx2
  have la11 := H11.tl.tl.tl.tl.tl.tl.tl.tl.bxlt
  go_wp2_with fail
  refine (heldPath_any _ _ _ _ _ _ _ _ 1 _ H11.op1 H11.op2 (fun _ _ => rfl) (fun _ _ => rfl) (by omega) (by omega) (by omega) (by omega)).mono ?_
  rintro e w12 ⟨rfl, hn⟩
  have H12 := H11.call hn
  have B12 : Below w.heap.size w w12 := bl (by go_grown) (by first | exact Nat.le_refl _ | (simp; done) | (simp; omega)) hn
  have s12 : w11.heap.size ≤ w12.heap.size := by have := hn.size; simpa using this
  clear hn
  clear H11
  obtain ⟨xg12, yg12⟩ := H12.tl.tl.tl.bx2
  have lg12 := H12.tl.tl.tl.bxlt
  obtain ⟨xx12, yx12⟩ := H12.tl.tl.tl.tl.bx2
  have lx12 := H12.tl.tl.tl.tl.bxlt
  obtain ⟨xw012, yw012⟩ := H12.tl.tl.tl.tl.tl.bx2
  have lw012 := H12.tl.tl.tl.tl.tl.bxlt
  obtain ⟨xa12, ya12⟩ := H12.tl.tl.tl.tl.tl.tl.tl.tl.bx2
  have la12 := H12.tl.tl.tl.tl.tl.tl.tl.tl.bxlt
  go_wp2_with fail
  refine (toPath_any a1 a2 n1 c1 n2 c2 f1 f2 _ H12.tl.tl.tl.tl.tl.tl.tl.tl.tl.tl.rnup H12.tl.tl.tl.tl.tl.tl.tl.tl.tl.rnup (by omega) (by omega)).mono ?_
  rintro e w13 ⟨p4, q4, rfl, ho, hn⟩
  have H13 := H12.call hn
  have B13 : Below w.heap.size w w13 := bl (by go_grown) (by first | exact Nat.le_refl _ | (simp; done) | (simp; omega)) hn
  have s13 : w12.heap.size ≤ w13.heap.size := by have := hn.size; simpa using this
  (try simp only [World.size_alloc] at ho)
  have H13 := H13.op (Nat.le_refl _) ho
  clear hn ho
  clear H12
  obtain ⟨xg13, yg13⟩ := H13.tl.tl.tl.tl.bx2
  have lg13 := H13.tl.tl.tl.tl.bxlt
  obtain ⟨xx13, yx13⟩ := H13.tl.tl.tl.tl.tl.bx2
  have lx13 := H13.tl.tl.tl.tl.tl.bxlt
  obtain ⟨xw013, yw013⟩ := H13.tl.tl.tl.tl.tl.tl.bx2
  have lw013 := H13.tl.tl.tl.tl.tl.tl.bxlt
  obtain ⟨xa13, ya13⟩ := H13.tl.tl.tl.tl.tl.tl.tl.tl.tl.bx2
  have la13 := H13.tl.tl.tl.tl.tl.tl.tl.tl.tl.bxlt
  go_wp2_with fail
  refine (I.out _ _ _ _ _ H13.op1 H13.op2).mono ?_
  rintro e w14 ⟨aV, cV, bV, dV, rfl, ho, hn⟩
  have H14 := H13.call hn
  have B14 : Below w.heap.size w w14 := bl (by go_grown) (by first | exact Nat.le_refl _ | (simp; done) | (simp; omega)) hn
  have s14 : w13.heap.size ≤ w14.heap.size := by have := hn.size; simpa using this
  (try simp only [World.size_alloc] at ho)
  have H14 := H14.op (Nat.le_refl _) ho
  clear hn ho
  clear H13
  obtain ⟨xg14, yg14⟩ := H14.tl.tl.tl.tl.tl.bx2
  have lg14 := H14.tl.tl.tl.tl.tl.bxlt
  obtain ⟨xx14, yx14⟩ := H14.tl.tl.tl.tl.tl.tl.bx2
  have lx14 := H14.tl.tl.tl.tl.tl.tl.bxlt
  obtain ⟨xw014, yw014⟩ := H14.tl.tl.tl.tl.tl.tl.tl.bx2
  have lw014 := H14.tl.tl.tl.tl.tl.tl.tl.bxlt
  obtain ⟨xa14, ya14⟩ := H14.tl.tl.tl.tl.tl.tl.tl.tl.tl.tl.bx2
  have la14 := H14.tl.tl.tl.tl.tl.tl.tl.tl.tl.tl.bxlt
  go_wp2_with fail
  refine (eqPath_self _ _ _ _ _ _ _ _ _ _ _ _ _ (H14.op1.top _) (H14.op2.top _) (H14.tl.tl.tl.tl.tl.tl.tl.tl.op1.top _) (H14.tl.tl.tl.tl.tl.tl.tl.tl.op2.top _) (by omega) (by omega)).mono ?_
  rintro e w15 ⟨rfl, hn⟩
  have H15 := (H14.new [.slice aV m1 cV, .slice bV m2 dV] 26).call hn
  have B15 : Below w.heap.size w w15 := bl (by go_grown) (by first | exact Nat.le_refl _ | (simp; done) | (simp; omega)) hn
  have s15 : w14.heap.size + 1 ≤ w15.heap.size := by have := hn.size; simpa using this
  clear hn
  clear H14
  obtain ⟨xh15, yh15⟩ := H15.bx2
  have lh15 := H15.bxlt
  obtain ⟨xg15, yg15⟩ := H15.tl.tl.tl.tl.tl.tl.bx2
  have lg15 := H15.tl.tl.tl.tl.tl.tl.bxlt
  obtain ⟨xx15, yx15⟩ := H15.tl.tl.tl.tl.tl.tl.tl.bx2
  have lx15 := H15.tl.tl.tl.tl.tl.tl.tl.bxlt
  obtain ⟨xw015, yw015⟩ := H15.tl.tl.tl.tl.tl.tl.tl.tl.bx2
  have lw015 := H15.tl.tl.tl.tl.tl.tl.tl.tl.bxlt
  obtain ⟨xa15, ya15⟩ := H15.tl.tl.tl.tl.tl.tl.tl.tl.tl.tl.tl.bx2
  have la15 := H15.tl.tl.tl.tl.tl.tl.tl.tl.tl.tl.tl.bxlt
  go_wp2_with fail
  refine (heldPath_any _ _ _ _ _ _ _ _ 1 _ H15.tl.tl.tl.op1 H15.tl.tl.tl.op2 (fun _ _ => rfl) (fun _ _ => rfl) (by omega) (by omega) (by omega) (by omega)).mono ?_
  rintro e w16 ⟨rfl, hn⟩
  have H16 := H15.call hn
  have B16 : Below w.heap.size w w16 := bl (by go_grown) (by first | exact Nat.le_refl _ | (simp; done) | (simp; omega)) hn
  have s16 : w15.heap.size ≤ w16.heap.size := by have := hn.size; simpa using this
  clear hn
  clear H15
  obtain ⟨xh16, yh16⟩ := H16.bx2
  have lh16 := H16.bxlt
  obtain ⟨xg16, yg16⟩ := H16.tl.tl.tl.tl.tl.tl.bx2
  have lg16 := H16.tl.tl.tl.tl.tl.tl.bxlt
  obtain ⟨xx16, yx16⟩ := H16.tl.tl.tl.tl.tl.tl.tl.bx2
  have lx16 := H16.tl.tl.tl.tl.tl.tl.tl.bxlt
  obtain ⟨xw016, yw016⟩ := H16.tl.tl.tl.tl.tl.tl.tl.tl.bx2
  have lw016 := H16.tl.tl.tl.tl.tl.tl.tl.tl.bxlt
  obtain ⟨xa16, ya16⟩ := H16.tl.tl.tl.tl.tl.tl.tl.tl.tl.tl.tl.bx2
  have la16 := H16.tl.tl.tl.tl.tl.tl.tl.tl.tl.tl.tl.bxlt
  go_wp2
  go_ret
  exact ⟨rfl, by go_grown⟩
theorem late_data (n : Int) (p : PD) (k : Int) : ∃ (ok : Bool) (m1 m2 : Nat) (g1 g2 : Nat → Int), m1 ≤ 1000000 ∧ m2 ≤ 1000000 ∧
    (∀ (W : World) (b1 b2 : Option Addr) (d1 d2 : Nat), Rn W W.heap.size b1 p.m1 p.f1 → Rn W W.heap.size b2 p.m2 p.f2 → Calls Try.prog 13 #[.int .i64 n, .agg #[.slice b1 p.m1 d1, .slice b2 p.m2 d2], .int .i64 k] W (PathRes W ok m1 g1 m2 g2)) ∧
    (∀ (W : World) (b1 b2 : Option Addr) (d1 d2 : Nat), Rn W W.heap.size b1 p.m1 p.f1 → Rn W W.heap.size b2 p.m2 p.f2 → Calls Try.prog 15 #[.int .i64 n, .agg #[.slice b1 p.m1 d1, .slice b2 p.m2 d2], .int .i64 k] W (PathRes W ok m1 g1 m2 g2)) := by
  obtain ⟨n1, f1, n2, f2⟩ := p
  have no : ∀ (W : World) (e : Ending) (w' : World), NoPath W e w' → PathRes W false 0 (fun _ => 0) 0 (fun _ => 0) e w' := fun W e w' ⟨he, hb⟩ => ⟨none, 0, none, 0, he, OwP.nil _ _ _ _ _ _ _, hb⟩
  by_cases hv : pathV n ⟨n1, f1, n2, f2⟩ = false ∨ ¬ (-2000 ≤ k ∧ k ≤ 2000)
  · exact ⟨false, 0, 0, fun _ => 0, fun _ => 0, by omega, by omega, fun W b1 b2 d1 d2 q1 q2 => (sLate_no b1 b2 n1 d1 n2 d2 f1 f2 n k W q1 q2 hv).mono fun e w' h => no W e w' h,
      fun W b1 b2 d1 d2 q1 q2 => (iLate_no b1 b2 n1 d1 n2 d2 f1 f2 n k W q1 q2 hv).mono fun e w' h => no W e w' h⟩
  have hk : -2000 ≤ k ∧ k ≤ 2000 := by
    by_cases hk : -2000 ≤ k ∧ k ≤ 2000
    · exact hk
    · exact absurd (.inr hk) hv
  have hp : pathV n ⟨n1, f1, n2, f2⟩ = true := by
    cases h : pathV n ⟨n1, f1, n2, f2⟩
    · exact absurd (.inl h) hv
    · rfl
  have hm := pathV_iff.1 hp
  obtain rfl : n = (n1 : Int) := hm.2.2.1.symm
  obtain rfl : n2 = n1 := by have : (n2 : Int) = (n1 : Int) := hm.2.2.2.1; omega
  cases hok : pathV n2 (lateD k ⟨n2, f1, n2, f2⟩)
  · exact ⟨false, 0, 0, fun _ => 0, fun _ => 0, by omega, by omega, fun W b1 b2 d1 d2 q1 q2 => (sLate_go false b1 b2 n2 d1 d2 f1 f2 k W q1 q2 hp hk hok).mono fun e w' h => no W e w' h,
      fun W b1 b2 d1 d2 q1 q2 => (iLate_go false b1 b2 n2 d1 d2 f1 f2 k W q1 q2 hp hk hok).mono fun e w' h => no W e w' h⟩
  · exact ⟨true, n2, n2, fun j => f1 j + k, fun j => f2 j + k, by omega, by omega, fun W b1 b2 d1 d2 q1 q2 => (sLate_go true b1 b2 n2 d1 d2 f1 f2 k W q1 q2 hp hk hok).mono fun e w' h => h,
      fun W b1 b2 d1 d2 q1 q2 => (iLate_go true b1 b2 n2 d1 d2 f1 f2 k W q1 q2 hp hk hok).mono fun e w' h => h⟩
theorem w_FnExactPathLate (n : Int) (a1 : Option Addr) (n1 c1 : Nat) (z1 : List Int) (a2 : Option Addr) (n2 c2 : Nat) (z2 : List Int) (k : Int) (w : World) (_w0 : (Lit.int .i64 n).wf = true) (q1 : IsRow .i64 w a1 n1 c1 z1) (q2 : IsRow .i64 w a2 n2 c2 z2) (_w2 : (Lit.int .i64 k).wf = true) :
    Calls Try.prog 3 #[.int .i64 n, .agg #[.slice a1 n1 c1, .slice a2 n2 c2], .int .i64 k] w fun e w' => e = .returned (.bool true) ∧ Below w.heap.size w w' := by
  obtain ⟨r1, h1, h2⟩ := q1.rn
  obtain ⟨r2, h3, h4⟩ := q2.rn
  by_cases hsz : (n1 : Int) + n2 ≤ 1048576
  · obtain ⟨ok, m1, m2, g1, g2, hm1, hm2, hS, hI⟩ := late_data n ⟨n1, fun i => z1.getD i 0, n2, fun i => z2.getD i 0⟩ k
    exact x_FnExactPathLate n k a1 a2 n1 c1 n2 c2 _ _ w r1 r2 hsz ok m1 m2 g1 g2 hm1 hm2 hS hI
  · have hlt : (1048576 : Int) < (n1 : Int) + n2 := by omega
    clear r1 r2 q1 q2 hsz _w0 _w2
    go_enter Try.func3, Try.ntmps3
    go_wp2_with fail
    refine (szPath_no a1 a2 n1 c1 n2 c2 1048576 _ (by omega) (by omega) hlt (by omega) (by omega)).mono ?_
    rintro e w1 ⟨rfl, hn⟩
    have hb1 : Below w.heap.size w w1 := bl (by go_grown) (Nat.le_refl _) hn
    clear hn
    go_wp2
    go_ret
    exact ⟨rfl, hb1⟩
end Go.Proofs.Ythlegnghojbcaaa
