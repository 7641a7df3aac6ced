/-
  The walk of FnExactRegisterJoin.
-/
import Derived.Test.YtanfhgliilkhjaaRegJn
namespace Go.Proofs.Ytanfhgliilkhjaa
open Go.RowKit Go.Deep
set_option linter.unusedVariables false

set_option maxRecDepth 100000 in
set_option maxHeartbeats 4000000 in
theorem x_FnExactRegisterJoin (A : Option Addr) (m c : Nat) (N : Nat → ND) (A2 : Option Addr) (m2 c2 : Nat) (N2 : Nat → ND) (w : World) (h : NsRn w w.heap.size A m N) (hc : m ≤ 9223372036854775807) (hmx : ∀ i, i < m → (N i).s.size ≤ 9223372036854775807) (h2 : NsRn w w.heap.size A2 m2 N2) (hc2 : m2 ≤ 9223372036854775807) (hmx2 : ∀ i, i < m2 → (N2 i).s.size ≤ 9223372036854775807) (hsz : (m : Int) + totS N m + m2 + totS N2 m2 ≤ 1048576)
    (ok : Bool) (q : Nat) (M : Nat → ND) (hq : q ≤ 60)
    (hS : ∀ (W : World) (g d g2 d2 : Nat), m ≤ d → m2 ≤ d2 → NsRn W W.heap.size (some ⟨g, 0, none⟩) m N → NsRn W W.heap.size (some ⟨g2, 0, none⟩) m2 N2 → Calls Try.prog 31 #[.slice (some ⟨g, 0, none⟩) m d, .slice (some ⟨g2, 0, none⟩) m2 d2] W (NotesOut W ok q M))
    (hI : ∀ (W : World) (g d g2 d2 : Nat), m ≤ d → m2 ≤ d2 → NsRn W W.heap.size (some ⟨g, 0, none⟩) m N → NsRn W W.heap.size (some ⟨g2, 0, none⟩) m2 N2 → Calls Try.prog 32 #[.slice (some ⟨g, 0, none⟩) m d, .slice (some ⟨g2, 0, none⟩) m2 d2] W (NotesOut W ok q M)) :
    Calls Try.prog 6 #[.slice A m c, .slice A2 m2 c2] w fun e w' => e = .returned (.bool true) ∧ Below w.heap.size w w' := by
  have B0 : Below w.heap.size w w := Below.refl _ _
  have H0 : Hold w [nsA w.heap.size A m N, nsA w.heap.size A2 m2 N2] := ((Hold.nil w).ns (Nat.le_refl _) h2).ns (Nat.le_refl _) h
  have Y2 := Lib.hid (szW_yes (n := m2) (N := N2) (left := 1048576 - m - totS N m) (by omega))
  have HX2 := Lib.hid hmx2
  have Y := Lib.hid (szW_yes (n := m) (N := N) (left := 1048576) (by omega))
  have HX := Lib.hid hmx
  have S := Lib.hid hS
  have I := Lib.hid hI
  clear hS hI h hmx h2 hmx2
  obtain ⟨t, ht⟩ : ∃ t, totS N m = t := ⟨_, rfl⟩
  rw [ht] at hsz Y Y2
  obtain ⟨t2, ht2⟩ : ∃ t, totS N2 m2 = t := ⟨_, rfl⟩
  rw [ht2] at hsz Y2
  clear ht2
  clear ht
  go_enter Try.func6, Try.ntmps6
  go_wp2_with fail
  refine (szNoteS_any A m c N 1048576 _ H0.nsup (by omega) (by omega) hc HX.out).mono ?_
  rintro e w1 ⟨rfl, hn⟩
  have H1 := H0.call hn
  have B1 : Below w.heap.size w w1 := bl (by go_grown) (by first | exact Nat.le_refl _ | (simp; done) | (simp; omega)) hn
  have s1 : w.heap.size ≤ w1.heap.size := by have := hn.size; simpa using this
  clear hn
  clear H0
  rw [Y.out]
  go_wp2_with fail
  refine (szNoteS_any A2 m2 c2 N2 (1048576 - m - t) _ H1.tl.nsup (by omega) (by omega) hc2 HX2.out).mono ?_
  rintro e w2 ⟨rfl, hn⟩
  have H2 := H1.call hn
  have B2 : Below w.heap.size w w2 := bl (by go_grown) (by first | exact Nat.le_refl _ | (simp; done) | (simp; omega)) hn
  have s2 : w1.heap.size ≤ w2.heap.size := by have := hn.size; simpa using this
  clear hn
  clear H1
  rw [Y2.out]
  go_wp2_with fail
  refine (toNoteS_any A m c N _ H2.nsup (by omega)).mono ?_
  rintro e w3 ⟨rfl, ho, hn⟩
  have H3 := H2.call hn
  have B3 : Below w.heap.size w w3 := bl (by go_grown) (by first | exact Nat.le_refl _ | (simp; done) | (simp; omega)) hn
  have s3 : w2.heap.size ≤ w3.heap.size := by have := hn.size; simpa using this
  (try simp only [World.size_alloc] at ho)
  have H3 := H3.no (Nat.le_refl _) ho
  clear hn ho
  clear H2
  go_wp2_with fail
  refine (toNoteS_any A2 m2 c2 N2 _ H3.tl.tl.nsup (by omega)).mono ?_
  rintro e w4 ⟨rfl, ho, hn⟩
  have H4 := H3.call hn
  have B4 : Below w.heap.size w w4 := bl (by go_grown) (by first | exact Nat.le_refl _ | (simp; done) | (simp; omega)) hn
  have s4 : w3.heap.size ≤ w4.heap.size := by have := hn.size; simpa using this
  (try simp only [World.size_alloc] at ho)
  have H4 := H4.no (Nat.le_refl _) ho
  clear hn ho
  clear H3
  go_wp2_with fail
  refine (S.out _ _ _ _ _ (Nat.le_refl _) (Nat.le_refl _) H4.tl.norn H4.norn).mono ?_
  rintro e w5 ⟨AW, cW, rfl, ho, hn⟩
  have H5 := H4.call hn
  have B5 : Below w.heap.size w w5 := bl (by go_grown) (by first | exact Nat.le_refl _ | (simp; done) | (simp; omega)) hn
  have s5 : w4.heap.size ≤ w5.heap.size := by have := hn.size; simpa using this
  (try simp only [World.size_alloc] at ho)
  have H5 := H5.no (Nat.le_refl _) ho
  clear hn ho
  clear H4
  go_wp2_with fail
  refine (toNoteS_any A m c N _ H5.tl.tl.tl.nsup (by omega)).mono ?_
  rintro e w6 ⟨rfl, ho, hn⟩
  have H6 := H5.call hn
  have B6 : Below w.heap.size w w6 := bl (by go_grown) (by first | exact Nat.le_refl _ | (simp; done) | (simp; omega)) hn
  have s6 : w5.heap.size ≤ w6.heap.size := by have := hn.size; simpa using this
  (try simp only [World.size_alloc] at ho)
  have H6 := H6.no (Nat.le_refl _) ho
  clear hn ho
  clear H5
  go_wp2_with fail
  refine (toNoteS_any A2 m2 c2 N2 _ H6.tl.tl.tl.tl.tl.nsup (by omega)).mono ?_
  rintro e w7 ⟨rfl, ho, hn⟩
  have H7 := H6.call hn
  have B7 : Below w.heap.size w w7 := bl (by go_grown) (by first | exact Nat.le_refl _ | (simp; done) | (simp; omega)) hn
  have s7 : w6.heap.size ≤ w7.heap.size := by have := hn.size; simpa using this
  (try simp only [World.size_alloc] at ho)
  have H7 := H7.no (Nat.le_refl _) ho
  clear hn ho
  clear H6
  go_wp2_with fail
  refine (I.out _ _ _ _ _ (Nat.le_refl _) (Nat.le_refl _) H7.tl.norn H7.norn).mono ?_
  rintro e w8 ⟨AG, cG, rfl, ho, hn⟩
  have H8 := H7.call hn
  have B8 : Below w.heap.size w w8 := bl (by go_grown) (by first | exact Nat.le_refl _ | (simp; done) | (simp; omega)) hn
  have s8 : w7.heap.size ≤ w8.heap.size := by have := hn.size; simpa using this
  (try simp only [World.size_alloc] at ho)
  have H8 := H8.no (Nat.le_refl _) ho
  clear hn ho
  clear H7
  go_wp2_with fail
  refine (eqNoteS_self _ _ _ _ _ _ _ H8.norn H8.tl.tl.tl.norn (by omega)).mono ?_
  rintro e w9 ⟨rfl, hn⟩
  have H9 := H8.call hn
  have B9 : Below w.heap.size w w9 := bl (by go_grown) (by first | exact Nat.le_refl _ | (simp; done) | (simp; omega)) hn
  have s9 : w8.heap.size ≤ w9.heap.size := by have := hn.size; simpa using this
  clear hn
  clear H8
  go_wp2_with fail
  refine (toNoteS_any A m c N _ H9.tl.tl.tl.tl.tl.tl.nsup (by omega)).mono ?_
  rintro e w10 ⟨rfl, ho, hn⟩
  have H10 := H9.call hn
  have B10 : Below w.heap.size w w10 := bl (by go_grown) (by first | exact Nat.le_refl _ | (simp; done) | (simp; omega)) hn
  have s10 : w9.heap.size ≤ w10.heap.size := by have := hn.size; simpa using this
  (try simp only [World.size_alloc] at ho)
  have H10 := H10.no (Nat.le_refl _) ho
  clear hn ho
  clear H9
  go_wp2_with fail
  refine (eqNoteS_self _ _ _ _ _ _ _ H10.tl.tl.tl.norn H10.norn (by omega)).mono ?_
  rintro e w11 ⟨rfl, hn⟩
  have H11 := H10.call hn
  have B11 : Below w.heap.size w w11 := bl (by go_grown) (by first | exact Nat.le_refl _ | (simp; done) | (simp; omega)) hn
  have s11 : w10.heap.size ≤ w11.heap.size := by have := hn.size; simpa using this
  clear hn
  clear H10
  go_wp2_with fail
  refine (toNoteS_any A2 m2 c2 N2 _ H11.tl.tl.tl.tl.tl.tl.tl.tl.nsup (by omega)).mono ?_
  rintro e w12 ⟨rfl, ho, hn⟩
  have H12 := H11.call hn
  have B12 : Below w.heap.size w w12 := bl (by go_grown) (by first | exact Nat.le_refl _ | (simp; done) | (simp; omega)) hn
  have s12 : w11.heap.size ≤ w12.heap.size := by have := hn.size; simpa using this
  (try simp only [World.size_alloc] at ho)
  have H12 := H12.no (Nat.le_refl _) ho
  clear hn ho
  clear H11
  go_wp2_with fail
  refine (eqNoteS_self _ _ _ _ _ _ _ H12.tl.tl.tl.norn H12.norn (by omega)).mono ?_
  rintro e w13 ⟨rfl, hn⟩
  have H13 := H12.call hn
  have B13 : Below w.heap.size w w13 := bl (by go_grown) (by first | exact Nat.le_refl _ | (simp; done) | (simp; omega)) hn
  have s13 : w12.heap.size ≤ w13.heap.size := by have := hn.size; simpa using this
  clear hn
  clear H12
  go_wp2_with fail
  refine (markNoteS_1 _ _ _ _ _ _ _ H13.tl.tl.tl.tl.hd (by omega)).mono ?_
  rintro e w14 ⟨rfl, -, hm⟩
  have H14 := H13.front4.tl.mid hm ((((((((((Apart.nil _ _).cons (.inl (show w.heap.size ≤ w5.heap.size by omega))).cons (.inl (show w.heap.size ≤ w5.heap.size by omega))).cons (.inl (show w3.heap.size ≤ w5.heap.size by omega))).cons (.inl (show w4.heap.size ≤ w5.heap.size by omega))).cons (.inl (show w5.heap.size ≤ w5.heap.size by omega))).cons (.inr (show w6.heap.size ≤ w6.heap.size by omega))).cons (.inr (show w6.heap.size ≤ w7.heap.size by omega))).cons (.inr (show w6.heap.size ≤ w9.heap.size by omega))).cons (.inr (show w6.heap.size ≤ w11.heap.size by omega)))
  have B14 : Below w.heap.size w w14 := B13.trans (hm.below (by omega) (by omega))
  have s14 := hm.size
  clear hm
  clear H13
  go_wp2_with fail
  refine (markNoteS_no _ _ _ _ _ _ (1 + m * 2) _ H14.tl.tl.tl.hd (by omega) (by omega) (by omega)).mono ?_
  rintro e w15 ⟨rfl, -, hm⟩
  have H15 := H14.front3.tl.mid hm (((((((((Apart.nil _ _).cons (.inl (show w.heap.size ≤ w6.heap.size by omega))).cons (.inl (show w.heap.size ≤ w6.heap.size by omega))).cons (.inl (show w3.heap.size ≤ w6.heap.size by omega))).cons (.inl (show w4.heap.size ≤ w6.heap.size by omega))).cons (.inl (show w5.heap.size ≤ w6.heap.size by omega))).cons (.inr (show w7.heap.size ≤ w7.heap.size by omega))).cons (.inr (show w7.heap.size ≤ w9.heap.size by omega))).cons (.inr (show w7.heap.size ≤ w11.heap.size by omega)))
  have B15 : Below w.heap.size w w15 := B14.trans (hm.below (by omega) (by omega))
  have s15 := hm.size
  clear hm
  clear H14
  have hk5 : decide ((1 : Int) + (m : Int) * 2 + (m2 : Int) * 2 < 0) = false := decide_eq_false (by omega)
  go_wp2_with fail
  refine (eqNoteS_self _ _ _ _ _ _ _ H15.tl.tl.norn H15.tl.tl.tl.norn (by omega)).mono ?_
  rintro e w16 ⟨rfl, hn⟩
  have H16 := H15.call hn
  have B16 : Below w.heap.size w w16 := bl (by go_grown) (by first | exact Nat.le_refl _ | (simp; done) | (simp; omega)) hn
  have s16 : w15.heap.size ≤ w16.heap.size := by have := hn.size; simpa using this
  clear hn
  clear H15
  go_wp2_with fail
  refine (markNoteS_1 _ _ _ _ _ _ _ H16.tl.tl.hd (by omega)).mono ?_
  rintro e w17 ⟨rfl, ho, hm⟩
  have H17 := (H16.front2.tl.mid hm ((((((((Apart.nil _ _).cons (.inl (show w.heap.size ≤ w7.heap.size by omega))).cons (.inl (show w.heap.size ≤ w7.heap.size by omega))).cons (.inl (show w3.heap.size ≤ w7.heap.size by omega))).cons (.inl (show w4.heap.size ≤ w7.heap.size by omega))).cons (.inl (show w5.heap.size ≤ w7.heap.size by omega))).cons (.inr (show w8.heap.size ≤ w9.heap.size by omega))).cons (.inr (show w8.heap.size ≤ w11.heap.size by omega)))).no (Nat.le_trans H16.tl.tl.hi hm.size) ho
  have B17 : Below w.heap.size w w17 := B16.trans (hm.below (by omega) (by omega))
  have s17 := hm.size
  clear hm ho
  clear H16
  go_wp2_with fail
  refine (heldNoteS_1 _ _ _ _ H17.norn (by omega)).mono ?_
  rintro e w18 ⟨rfl, hn⟩
  have H18 := H17.call hn
  have B18 : Below w.heap.size w w18 := bl (by go_grown) (by first | exact Nat.le_refl _ | (simp; done) | (simp; omega)) hn
  have s18 : w17.heap.size ≤ w18.heap.size := by have := hn.size; simpa using this
  clear hn
  clear H17
  go_wp2_with fail
  refine (toNoteS_any A m c N _ H18.tl.tl.tl.tl.tl.tl.nsup (by omega)).mono ?_
  rintro e w19 ⟨rfl, ho, hn⟩
  have H19 := H18.call hn
  have B19 : Below w.heap.size w w19 := bl (by go_grown) (by first | exact Nat.le_refl _ | (simp; done) | (simp; omega)) hn
  have s19 : w18.heap.size ≤ w19.heap.size := by have := hn.size; simpa using this
  (try simp only [World.size_alloc] at ho)
  have H19 := H19.no (Nat.le_refl _) ho
  clear hn ho
  clear H18
  go_wp2_with fail
  refine (toNoteS_any A2 m2 c2 N2 _ H19.tl.tl.tl.tl.tl.tl.tl.tl.nsup (by omega)).mono ?_
  rintro e w20 ⟨rfl, ho, hn⟩
  have H20 := H19.call hn
  have B20 : Below w.heap.size w w20 := bl (by go_grown) (by first | exact Nat.le_refl _ | (simp; done) | (simp; omega)) hn
  have s20 : w19.heap.size ≤ w20.heap.size := by have := hn.size; simpa using this
  (try simp only [World.size_alloc] at ho)
  have H20 := H20.no (Nat.le_refl _) ho
  clear hn ho
  clear H19
  go_wp2_with fail
  refine (I.out _ _ _ _ _ (Nat.le_refl _) (Nat.le_refl _) H20.tl.norn H20.norn).mono ?_
  rintro e w21 ⟨AV, cV, rfl, ho, hn⟩
  have H21 := H20.call hn
  have B21 : Below w.heap.size w w21 := bl (by go_grown) (by first | exact Nat.le_refl _ | (simp; done) | (simp; omega)) hn
  have s21 : w20.heap.size ≤ w21.heap.size := by have := hn.size; simpa using this
  (try simp only [World.size_alloc] at ho)
  have H21 := H21.no (Nat.le_refl _) ho
  clear hn ho
  clear H20
  go_wp2_with fail
  refine (eqNoteS_self _ _ _ _ _ _ _ H21.norn H21.tl.tl.tl.tl.tl.tl.norn (by omega)).mono ?_
  rintro e w22 ⟨rfl, hn⟩
  have H22 := H21.call hn
  have B22 : Below w.heap.size w w22 := bl (by go_grown) (by first | exact Nat.le_refl _ | (simp; done) | (simp; omega)) hn
  have s22 : w21.heap.size ≤ w22.heap.size := by have := hn.size; simpa using this
  clear hn
  clear H21
  go_wp2_with fail
  refine (heldNoteS_1 _ _ _ _ H22.tl.tl.tl.norn (by omega)).mono ?_
  rintro e w23 ⟨rfl, hn⟩
  have H23 := H22.call hn
  have B23 : Below w.heap.size w w23 := bl (by go_grown) (by first | exact Nat.le_refl _ | (simp; done) | (simp; omega)) hn
  have s23 : w22.heap.size ≤ w23.heap.size := by have := hn.size; simpa using this
  clear hn
  clear H22
  go_wp2
  go_ret
  exact ⟨rfl, by go_grown⟩
set_option maxRecDepth 100000 in
theorem w_FnExactRegisterJoin (A : Option Addr) (m c : Nat) (N : Nat → ND) (A2 : Option Addr) (m2 c2 : Nat) (N2 : Nat → ND) (w : World) (p : IsNotes w A m c N) (p2 : IsNotes w A2 m2 c2 N2) :
    Calls Try.prog 6 #[.slice A m c, .slice A2 m2 c2] w fun e w' => e = .returned (.bool true) ∧ Below w.heap.size w w' := by
  obtain ⟨hc, hm, hp, hx⟩ := p
  obtain ⟨hc2, hm2, hp2, hx2⟩ := p2
  by_cases hsz : (m : Int) + totS N m ≤ 1048576
  · by_cases hs2 : (m2 : Int) + totS N2 m2 ≤ 1048576 - m - totS N m
    · obtain ⟨ok, q, M, hq, hS, hI⟩ := d_RegJoin m N m2 N2 (by omega) (by omega)
      exact x_FnExactRegisterJoin A m c N A2 m2 c2 N2 w hp (by omega) hx hp2 (by omega) hx2 (by omega) ok q M hq hS hI
    · have Y := Lib.hid (szW_yes (n := m) (N := N) (left := 1048576) hsz)
      have Y2 := Lib.hid (szW_no (n := m2) (N := N2) (left := 1048576 - m - totS N m) hs2)
      have HX := Lib.hid hx
      have HX2 := Lib.hid hx2
      clear hs2 hx hx2
      obtain ⟨t, ht⟩ : ∃ t, totS N m = t := ⟨_, rfl⟩
      rw [ht] at hsz Y Y2
      clear ht
      go_enter Try.func6, Try.ntmps6
      go_wp2_with fail
      refine (szNoteS_any A m c N 1048576 _ hp (by omega) (by omega) (by omega) HX.out).mono ?_
      rintro e w1 ⟨rfl, hn⟩
      rw [Y.out]
      have hp2 := hp2.topb hn
      clear hp
      go_wp2_with fail
      refine (szNoteS_any A2 m2 c2 N2 (1048576 - m - t) _ hp2 (by omega) (by omega) (by omega) HX2.out).mono ?_
      rintro e w2 ⟨rfl, hn2⟩
      have hn2 := bl hn (Nat.le_refl _) hn2
      rw [Y2.out]
      clear hp2 hn
      go_wp2
      go_ret
      exact ⟨rfl, hn2⟩
  · have Y := Lib.hid (szW_no (n := m) (N := N) (left := 1048576) hsz)
    have HX := Lib.hid hx
    clear hsz hx
    go_enter Try.func6, Try.ntmps6
    go_wp2_with fail
    refine (szNoteS_any A m c N 1048576 _ hp (by omega) (by omega) (by omega) HX.out).mono ?_
    rintro e w1 ⟨rfl, hn⟩
    rw [Y.out]
    clear hp hp2
    go_wp2
    go_ret
    exact ⟨rfl, hn⟩
end Go.Proofs.Ytanfhgliilkhjaa
