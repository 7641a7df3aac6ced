/-
  The walk of FnExactRegisterOf.
-/
import Derived.Test.YtanfhgliilkhjaaRegO
namespace Go.Proofs.Ytanfhgliilkhjaa
open Go.RowKit Go.Deep
set_option linter.unusedVariables false

set_option maxRecDepth 100000 in
set_option maxHeartbeats 8000000 in
theorem x_FnExactRegisterOf (A : Option Addr) (m c : Nat) (N : Nat → ND) (B : Option Addr) (r d : Nat) (f : Nat → Int) (k : Int) (w : World) (h : NsRn w w.heap.size A m N) (h2 : Rn w w.heap.size B r f) (hc : m ≤ 9223372036854775807) (hmx : ∀ i, i < m → (N i).s.size ≤ 9223372036854775807) (hsz : (m : Int) + totS N m ≤ 1048576) (hr : r ≤ 1048576)
    (ok : Bool) (q : Nat) (M : Nat → ND) (hq : q ≤ 60)
    (hS : ∀ (W : World) (g d g2 d2 : Nat), NsRn W W.heap.size (some ⟨g, 0, none⟩) m N → Rn W W.heap.size (some ⟨g2, 0, none⟩) r f → Calls Try.prog 46 #[.slice (some ⟨g, 0, none⟩) m d, .slice (some ⟨g2, 0, none⟩) r d2, .int .i64 k] W (NotesOut W ok q M))
    (hI : ∀ (W : World) (g d g2 d2 : Nat), NsRn W W.heap.size (some ⟨g, 0, none⟩) m N → Rn W W.heap.size (some ⟨g2, 0, none⟩) r f → Calls Try.prog 48 #[.slice (some ⟨g, 0, none⟩) m d, .slice (some ⟨g2, 0, none⟩) r d2, .int .i64 k] W (NotesOut W ok q M)) :
    Calls Try.prog 11 #[.slice A m c, .slice B r d, .int .i64 k] w fun e w' => e = .returned (.bool true) ∧ Below w.heap.size w w' := by
  have B0 : Below w.heap.size w w := Below.refl _ _
  have H0 : Hold w [nsA w.heap.size A m N, rnA w.heap.size B r f] := ((Hold.nil w).rn (Nat.le_refl _) h2).ns (Nat.le_refl _) h
  have Y := Lib.hid (szW_yes (n := m) (N := N) (left := 1048576) (by omega))
  have HX := Lib.hid hmx
  have S := Lib.hid hS
  have I := Lib.hid hI
  have hd0 : decide ((1048576 : Int) < (r : Int)) = false := decide_eq_false (by omega)
  clear hS hI h h2 hmx
  obtain ⟨t, ht⟩ : ∃ t, totS N m = t := ⟨_, rfl⟩
  rw [ht] at hsz Y
  clear ht
  go_enter Try.func11, Try.ntmps11
  go_wp2_with fail
  refine (szMoveS_any A m c N 1048576 _ H0.nsup (by omega) (by omega) hc HX.out).mono ?_
  rintro e w1 ⟨rfl, hn⟩
  have H1 := H0.call hn
  have B1 : Below w.heap.size w w1 := bl (by go_grown) (by first | exact Nat.le_refl _ | (simp; done) | (simp; omega)) hn
  have s1 : w.heap.size ≤ w1.heap.size := by have := hn.size; simpa using this
  clear hn
  clear H0
  rw [Y.out]
  go_wp2_with fail
  refine (toMoveS_any A m c N _ H1.nsup (by omega)).mono ?_
  rintro e w2 ⟨rfl, ho, hn⟩
  have H2 := H1.call hn
  have B2 : Below w.heap.size w w2 := bl (by go_grown) (by first | exact Nat.le_refl _ | (simp; done) | (simp; omega)) hn
  have s2 : w1.heap.size ≤ w2.heap.size := by have := hn.size; simpa using this
  (try simp only [World.size_alloc] at ho)
  have H2 := H2.no (Nat.le_refl _) ho
  clear hn ho
  clear H1
  go_wp2_with fail
  refine (toInts_ow B r d f _ H2.tl.tl.rnup (by omega)).mono ?_
  rintro e w3 ⟨rfl, ho, hn⟩
  have H3 := H2.call hn
  have B3 : Below w.heap.size w w3 := bl (by go_grown) (by first | exact Nat.le_refl _ | (simp; done) | (simp; omega)) hn
  have s3 : w2.heap.size ≤ w3.heap.size := by have := hn.size; simpa using this
  (try simp only [World.size_alloc] at ho)
  have H3 := H3.ow (Nat.le_refl _) ho
  clear hn ho
  clear H2
  go_wp2_with fail
  refine (S.out _ _ _ _ _ H3.tl.norn H3.owrn).mono ?_
  rintro e w4 ⟨AW, cW, rfl, ho, hn⟩
  have H4 := H3.call hn
  have B4 : Below w.heap.size w w4 := bl (by go_grown) (by first | exact Nat.le_refl _ | (simp; done) | (simp; omega)) hn
  have s4 : w3.heap.size ≤ w4.heap.size := by have := hn.size; simpa using this
  (try simp only [World.size_alloc] at ho)
  have H4 := H4.no (Nat.le_refl _) ho
  clear hn ho
  clear H3
  go_wp2_with fail
  refine (toMoveS_any A m c N _ H4.tl.tl.tl.nsup (by omega)).mono ?_
  rintro e w5 ⟨rfl, ho, hn⟩
  have H5 := H4.call hn
  have B5 : Below w.heap.size w w5 := bl (by go_grown) (by first | exact Nat.le_refl _ | (simp; done) | (simp; omega)) hn
  have s5 : w4.heap.size ≤ w5.heap.size := by have := hn.size; simpa using this
  (try simp only [World.size_alloc] at ho)
  have H5 := H5.no (Nat.le_refl _) ho
  clear hn ho
  clear H4
  go_wp2_with fail
  refine (toInts_ow B r d f _ H5.tl.tl.tl.tl.tl.rnup (by omega)).mono ?_
  rintro e w6 ⟨rfl, ho, hn⟩
  have H6 := H5.call hn
  have B6 : Below w.heap.size w w6 := bl (by go_grown) (by first | exact Nat.le_refl _ | (simp; done) | (simp; omega)) hn
  have s6 : w5.heap.size ≤ w6.heap.size := by have := hn.size; simpa using this
  (try simp only [World.size_alloc] at ho)
  have H6 := H6.ow (Nat.le_refl _) ho
  clear hn ho
  clear H5
  go_wp2_with fail
  refine (I.out _ _ _ _ _ H6.tl.norn H6.owrn).mono ?_
  rintro e w7 ⟨AG, cG, rfl, ho, hn⟩
  have H7 := H6.call hn
  have B7 : Below w.heap.size w w7 := bl (by go_grown) (by first | exact Nat.le_refl _ | (simp; done) | (simp; omega)) hn
  have s7 : w6.heap.size ≤ w7.heap.size := by have := hn.size; simpa using this
  (try simp only [World.size_alloc] at ho)
  have H7 := H7.no (Nat.le_refl _) ho
  clear hn ho
  clear H6
  go_wp2_with fail
  refine (eqNoteS_self _ _ _ _ _ _ _ H7.norn H7.tl.tl.tl.norn (by omega)).mono ?_
  rintro e w8 ⟨rfl, hn⟩
  have H8 := H7.call hn
  have B8 : Below w.heap.size w w8 := bl (by go_grown) (by first | exact Nat.le_refl _ | (simp; done) | (simp; omega)) hn
  have s8 : w7.heap.size ≤ w8.heap.size := by have := hn.size; simpa using this
  clear hn
  clear H7
  go_wp2_with fail
  refine (toMoveS_any A m c N _ H8.tl.tl.tl.tl.tl.tl.nsup (by omega)).mono ?_
  rintro e w9 ⟨rfl, ho, hn⟩
  have H9 := H8.call hn
  have B9 : Below w.heap.size w w9 := bl (by go_grown) (by first | exact Nat.le_refl _ | (simp; done) | (simp; omega)) hn
  have s9 : w8.heap.size ≤ w9.heap.size := by have := hn.size; simpa using this
  (try simp only [World.size_alloc] at ho)
  have H9 := H9.no (Nat.le_refl _) ho
  clear hn ho
  clear H8
  go_wp2_with fail
  refine (eqMoveS_self _ _ _ _ _ _ _ H9.tl.tl.tl.norn H9.norn (by omega)).mono ?_
  rintro e w10 ⟨rfl, hn⟩
  have H10 := H9.call hn
  have B10 : Below w.heap.size w w10 := bl (by go_grown) (by first | exact Nat.le_refl _ | (simp; done) | (simp; omega)) hn
  have s10 : w9.heap.size ≤ w10.heap.size := by have := hn.size; simpa using this
  clear hn
  clear H9
  go_wp2_with fail
  refine (toInts_ow B r d f _ H10.tl.tl.tl.tl.tl.tl.tl.tl.rnup (by omega)).mono ?_
  rintro e w11 ⟨rfl, ho, hn⟩
  have H11 := H10.call hn
  have B11 : Below w.heap.size w w11 := bl (by go_grown) (by first | exact Nat.le_refl _ | (simp; done) | (simp; omega)) hn
  have s11 : w10.heap.size ≤ w11.heap.size := by have := hn.size; simpa using this
  (try simp only [World.size_alloc] at ho)
  have H11 := H11.ow (Nat.le_refl _) ho
  clear hn ho
  clear H10
  go_wp2_with fail
  refine (eqInts_self _ _ _ _ _ _ _ H11.tl.tl.tl.owrn H11.owrn (by omega)).mono ?_
  rintro e w12 ⟨rfl, hn⟩
  have H12 := H11.call hn
  have B12 : Below w.heap.size w w12 := bl (by go_grown) (by first | exact Nat.le_refl _ | (simp; done) | (simp; omega)) hn
  have s12 : w11.heap.size ≤ w12.heap.size := by have := hn.size; simpa using this
  clear hn
  clear H11
  go_wp2_with fail
  refine (markMoveS_1 _ _ _ _ _ _ _ H12.tl.tl.tl.tl.hd (by omega)).mono ?_
  rintro e w13 ⟨rfl, -, hm⟩
  have H13 := H12.front4.tl.mid hm ((((((((((Apart.nil _ _).cons (.inl (show w.heap.size ≤ w4.heap.size by omega))).cons (.inl (show w.heap.size ≤ w4.heap.size by omega))).cons (.inl (show w2.heap.size ≤ w4.heap.size by omega))).cons (.inl (show w3.heap.size ≤ w4.heap.size by omega))).cons (.inl (show w4.heap.size ≤ w4.heap.size by omega))).cons (.inr (show w5.heap.size ≤ w5.heap.size by omega))).cons (.inr (show w5.heap.size ≤ w6.heap.size by omega))).cons (.inr (show w5.heap.size ≤ w8.heap.size by omega))).cons (.inr (show w5.heap.size ≤ w10.heap.size by omega)))
  have B13 : Below w.heap.size w w13 := B12.trans (hm.below (by omega) (by omega))
  have s13 := hm.size
  clear hm
  clear H12
  go_wp2_with fail
  refine (markInts_ow _ _ _ _ _ _ (1 + (m : Int) * 2) _ H13.tl.tl.tl.hd (by omega) (by omega) (by omega)).mono ?_
  rintro e w14 ⟨rfl, hm⟩
  have H14 := H13.front3.tl.mid hm (((((((((Apart.nil _ _).cons (.inl (show w.heap.size ≤ w5.heap.size by omega))).cons (.inl (show w.heap.size ≤ w5.heap.size by omega))).cons (.inl (show w2.heap.size ≤ w5.heap.size by omega))).cons (.inl (show w3.heap.size ≤ w5.heap.size by omega))).cons (.inl (show w4.heap.size ≤ w5.heap.size by omega))).cons (.inr (show w6.heap.size ≤ w6.heap.size by omega))).cons (.inr (show w6.heap.size ≤ w8.heap.size by omega))).cons (.inr (show w6.heap.size ≤ w10.heap.size by omega)))
  have B14 : Below w.heap.size w w14 := B13.trans (hm.below (by omega) (by omega))
  have s14 := hm.size
  clear hm
  clear H13
  have hk5 : decide ((1 : Int) + (m : Int) * 2 + (r : Int) < 0) = false := decide_eq_false (by omega)
  go_wp2_with fail
  refine (eqNoteS_self _ _ _ _ _ _ _ H14.tl.tl.norn H14.tl.tl.tl.norn (by omega)).mono ?_
  rintro e w15 ⟨rfl, hn⟩
  have H15 := H14.call hn
  have B15 : Below w.heap.size w w15 := bl (by go_grown) (by first | exact Nat.le_refl _ | (simp; done) | (simp; omega)) hn
  have s15 : w14.heap.size ≤ w15.heap.size := by have := hn.size; simpa using this
  clear hn
  clear H14
  go_wp2_with fail
  refine (markNoteS_1 _ _ _ _ _ _ _ H15.tl.tl.hd (by omega)).mono ?_
  rintro e w16 ⟨rfl, ho, hm⟩
  have H16 := (H15.front2.tl.mid hm ((((((((Apart.nil _ _).cons (.inl (show w.heap.size ≤ w6.heap.size by omega))).cons (.inl (show w.heap.size ≤ w6.heap.size by omega))).cons (.inl (show w2.heap.size ≤ w6.heap.size by omega))).cons (.inl (show w3.heap.size ≤ w6.heap.size by omega))).cons (.inl (show w4.heap.size ≤ w6.heap.size by omega))).cons (.inr (show w7.heap.size ≤ w8.heap.size by omega))).cons (.inr (show w7.heap.size ≤ w10.heap.size by omega)))).no (Nat.le_trans H15.tl.tl.hi hm.size) ho
  have B16 : Below w.heap.size w w16 := B15.trans (hm.below (by omega) (by omega))
  have s16 := hm.size
  clear hm ho
  clear H15
  go_wp2_with fail
  refine (heldNoteS_1 _ _ _ _ H16.norn (by omega)).mono ?_
  rintro e w17 ⟨rfl, hn⟩
  have H17 := H16.call hn
  have B17 : Below w.heap.size w w17 := bl (by go_grown) (by first | exact Nat.le_refl _ | (simp; done) | (simp; omega)) hn
  have s17 : w16.heap.size ≤ w17.heap.size := by have := hn.size; simpa using this
  clear hn
  clear H16
  go_wp2_with fail
  refine (toMoveS_any A m c N _ H17.tl.tl.tl.tl.tl.tl.nsup (by omega)).mono ?_
  rintro e w18 ⟨rfl, ho, hn⟩
  have H18 := H17.call hn
  have B18 : Below w.heap.size w w18 := bl (by go_grown) (by first | exact Nat.le_refl _ | (simp; done) | (simp; omega)) hn
  have s18 : w17.heap.size ≤ w18.heap.size := by have := hn.size; simpa using this
  (try simp only [World.size_alloc] at ho)
  have H18 := H18.no (Nat.le_refl _) ho
  clear hn ho
  clear H17
  go_wp2_with fail
  refine (toInts_ow B r d f _ H18.tl.tl.tl.tl.tl.tl.tl.tl.rnup (by omega)).mono ?_
  rintro e w19 ⟨rfl, ho, hn⟩
  have H19 := H18.call hn
  have B19 : Below w.heap.size w w19 := bl (by go_grown) (by first | exact Nat.le_refl _ | (simp; done) | (simp; omega)) hn
  have s19 : w18.heap.size ≤ w19.heap.size := by have := hn.size; simpa using this
  (try simp only [World.size_alloc] at ho)
  have H19 := H19.ow (Nat.le_refl _) ho
  clear hn ho
  clear H18
  go_wp2_with fail
  refine (I.out _ _ _ _ _ H19.tl.norn H19.owrn).mono ?_
  rintro e w20 ⟨AV, cV, rfl, ho, hn⟩
  have H20 := H19.call hn
  have B20 : Below w.heap.size w w20 := bl (by go_grown) (by first | exact Nat.le_refl _ | (simp; done) | (simp; omega)) hn
  have s20 : w19.heap.size ≤ w20.heap.size := by have := hn.size; simpa using this
  (try simp only [World.size_alloc] at ho)
  have H20 := H20.no (Nat.le_refl _) ho
  clear hn ho
  clear H19
  go_wp2_with fail
  refine (eqNoteS_self _ _ _ _ _ _ _ H20.norn H20.tl.tl.tl.tl.tl.tl.norn (by omega)).mono ?_
  rintro e w21 ⟨rfl, hn⟩
  have H21 := H20.call hn
  have B21 : Below w.heap.size w w21 := bl (by go_grown) (by first | exact Nat.le_refl _ | (simp; done) | (simp; omega)) hn
  have s21 : w20.heap.size ≤ w21.heap.size := by have := hn.size; simpa using this
  clear hn
  clear H20
  go_wp2_with fail
  refine (heldNoteS_1 _ _ _ _ H21.tl.tl.tl.norn (by omega)).mono ?_
  rintro e w22 ⟨rfl, hn⟩
  have H22 := H21.call hn
  have B22 : Below w.heap.size w w22 := bl (by go_grown) (by first | exact Nat.le_refl _ | (simp; done) | (simp; omega)) hn
  have s22 : w21.heap.size ≤ w22.heap.size := by have := hn.size; simpa using this
  clear hn
  clear H21
  go_wp2
  go_ret
  exact ⟨rfl, by go_grown⟩
set_option maxRecDepth 100000 in
theorem w_FnExactRegisterOf (A : Option Addr) (m c : Nat) (N : Nat → ND) (B : Option Addr) (r d : Nat) (z : List Int) (k : Int) (w : World) (p : IsNotes w A m c N) (p2 : IsRow .i64 w B r d z) (_wk : (Lit.int .i64 k).wf = true) :
    Calls Try.prog 11 #[.slice A m c, .slice B r d, .int .i64 k] w fun e w' => e = .returned (.bool true) ∧ Below w.heap.size w w' := by
  obtain ⟨hc, hm, hp, hx⟩ := p
  obtain ⟨hr, hrd, hd⟩ := p2.rn
  by_cases hrs : 1048576 < r
  · have hd0 : decide ((1048576 : Int) < (r : Int)) = true := decide_eq_true (by omega)
    clear hp hr hx p2
    go_enter Try.func11, Try.ntmps11
    go_wp2
    go_ret
    exact ⟨rfl, Below.refl _ _⟩
  by_cases hsz : (m : Int) + totS N m ≤ 1048576
  · obtain ⟨ok, q, M, hq, hS, hI⟩ := d_RegOf m N r (fun i => z.getD i 0) k (by omega) (by omega)
    exact x_FnExactRegisterOf A m c N B r d _ k w hp hr (by omega) hx hsz (by omega) ok q M hq hS hI
  · have Y := Lib.hid (szW_no (n := m) (N := N) (left := 1048576) hsz)
    have HX := Lib.hid hx
    have hd0 : decide ((1048576 : Int) < (r : Int)) = false := decide_eq_false (by omega)
    clear hsz hx p2 hr
    go_enter Try.func11, Try.ntmps11
    go_wp2_with fail
    refine (szMoveS_any A m c N 1048576 _ hp (by omega) (by omega) (by omega) HX.out).mono ?_
    rintro e w1 ⟨rfl, hn⟩
    rw [Y.out]
    clear hp
    go_wp2
    go_ret
    exact ⟨rfl, hn⟩
end Go.Proofs.Ytanfhgliilkhjaa
