/-
  The walk of FnExactRegisterLate.
-/
import Derived.Test.YtanfhgliilkhjaaRegLt
namespace Go.Proofs.Ytanfhgliilkhjaa
open Go.RowKit Go.Deep
set_option linter.unusedVariables false

set_option maxRecDepth 100000 in
set_option maxHeartbeats 4000000 in
theorem x_FnExactRegisterLate (A : Option Addr) (m c : Nat) (N : Nat → ND) (k : Int) (w : World) (h : NsRn w w.heap.size A m N) (hc : m ≤ 9223372036854775807) (hmx : ∀ i, i < m → (N i).s.size ≤ 9223372036854775807) (hsz : (m : Int) + totS N m ≤ 1048576)
    (ok : Bool) (q : Nat) (M : Nat → ND) (hq : q ≤ 60)
    (hS : ∀ (W : World) (g d : Nat), m ≤ d → NsRn W W.heap.size (some ⟨g, 0, none⟩) m N → Calls Try.prog 41 #[.slice (some ⟨g, 0, none⟩) m d, .int .i64 k] W (NotesOut W ok q M))
    (hI : ∀ (W : World) (g d : Nat), m ≤ d → NsRn W W.heap.size (some ⟨g, 0, none⟩) m N → Calls Try.prog 42 #[.slice (some ⟨g, 0, none⟩) m d, .int .i64 k] W (NotesOut W ok q M)) :
    Calls Try.prog 9 #[.slice A m c, .int .i64 k] w fun e w' => e = .returned (.bool true) ∧ Below w.heap.size w w' := by
  have B0 : Below w.heap.size w w := Below.refl _ _
  have H0 : Hold w [nsA w.heap.size A m N] := (Hold.nil w).ns (Nat.le_refl _) h
  have Y := Lib.hid (szW_yes (n := m) (N := N) (left := 1048576) (by omega))
  have HX := Lib.hid hmx
  have S := Lib.hid hS
  have I := Lib.hid hI
  clear hS hI h hmx
  obtain ⟨t, ht⟩ : ∃ t, totS N m = t := ⟨_, rfl⟩
  rw [ht] at hsz Y
  clear ht
  go_enter Try.func9, Try.ntmps9
  go_wp2_with fail
  refine (szNoteS_any A m c N 1048576 _ H0.nsup (by omega) (by omega) hc HX.out).mono ?_
  rintro e w1 ⟨rfl, hn⟩
  have H1 := H0.call hn
  have B1 : Below w.heap.size w w1 := bl (by go_grown) (by first | exact Nat.le_refl _ | (simp; done) | (simp; omega)) hn
  have s1 : w.heap.size ≤ w1.heap.size := by have := hn.size; simpa using this
  clear hn
  clear H0
  rw [Y.out]
  go_wp2_with fail
  refine (toNoteS_any A m c N _ H1.nsup (by omega)).mono ?_
  rintro e w2 ⟨rfl, ho, hn⟩
  have H2 := H1.call hn
  have B2 : Below w.heap.size w w2 := bl (by go_grown) (by first | exact Nat.le_refl _ | (simp; done) | (simp; omega)) hn
  have s2 : w1.heap.size ≤ w2.heap.size := by have := hn.size; simpa using this
  (try simp only [World.size_alloc] at ho)
  have H2 := H2.no (Nat.le_refl _) ho
  clear hn ho
  clear H1
  go_wp2_with fail
  refine (S.out _ _ _ (Nat.le_refl _) H2.norn).mono ?_
  rintro e w3 ⟨AW, cW, rfl, ho, hn⟩
  have H3 := H2.call hn
  have B3 : Below w.heap.size w w3 := bl (by go_grown) (by first | exact Nat.le_refl _ | (simp; done) | (simp; omega)) hn
  have s3 : w2.heap.size ≤ w3.heap.size := by have := hn.size; simpa using this
  (try simp only [World.size_alloc] at ho)
  have H3 := H3.no (Nat.le_refl _) ho
  clear hn ho
  clear H2
  go_wp2_with fail
  refine (toNoteS_any A m c N _ H3.tl.tl.nsup (by omega)).mono ?_
  rintro e w4 ⟨rfl, ho, hn⟩
  have H4 := H3.call hn
  have B4 : Below w.heap.size w w4 := bl (by go_grown) (by first | exact Nat.le_refl _ | (simp; done) | (simp; omega)) hn
  have s4 : w3.heap.size ≤ w4.heap.size := by have := hn.size; simpa using this
  (try simp only [World.size_alloc] at ho)
  have H4 := H4.no (Nat.le_refl _) ho
  clear hn ho
  clear H3
  go_wp2_with fail
  refine (I.out _ _ _ (Nat.le_refl _) H4.norn).mono ?_
  rintro e w5 ⟨AG, cG, rfl, ho, hn⟩
  have H5 := H4.call hn
  have B5 : Below w.heap.size w w5 := bl (by go_grown) (by first | exact Nat.le_refl _ | (simp; done) | (simp; omega)) hn
  have s5 : w4.heap.size ≤ w5.heap.size := by have := hn.size; simpa using this
  (try simp only [World.size_alloc] at ho)
  have H5 := H5.no (Nat.le_refl _) ho
  clear hn ho
  clear H4
  go_wp2_with fail
  refine (eqNoteS_self _ _ _ _ _ _ _ H5.norn H5.tl.tl.norn (by omega)).mono ?_
  rintro e w6 ⟨rfl, hn⟩
  have H6 := H5.call hn
  have B6 : Below w.heap.size w w6 := bl (by go_grown) (by first | exact Nat.le_refl _ | (simp; done) | (simp; omega)) hn
  have s6 : w5.heap.size ≤ w6.heap.size := by have := hn.size; simpa using this
  clear hn
  clear H5
  go_wp2_with fail
  refine (toNoteS_any A m c N _ H6.tl.tl.tl.tl.nsup (by omega)).mono ?_
  rintro e w7 ⟨rfl, ho, hn⟩
  have H7 := H6.call hn
  have B7 : Below w.heap.size w w7 := bl (by go_grown) (by first | exact Nat.le_refl _ | (simp; done) | (simp; omega)) hn
  have s7 : w6.heap.size ≤ w7.heap.size := by have := hn.size; simpa using this
  (try simp only [World.size_alloc] at ho)
  have H7 := H7.no (Nat.le_refl _) ho
  clear hn ho
  clear H6
  go_wp2_with fail
  refine (eqNoteS_self _ _ _ _ _ _ _ H7.tl.tl.norn H7.norn (by omega)).mono ?_
  rintro e w8 ⟨rfl, hn⟩
  have H8 := H7.call hn
  have B8 : Below w.heap.size w w8 := bl (by go_grown) (by first | exact Nat.le_refl _ | (simp; done) | (simp; omega)) hn
  have s8 : w7.heap.size ≤ w8.heap.size := by have := hn.size; simpa using this
  clear hn
  clear H7
  go_wp2_with fail
  refine (markNoteS_1 _ _ _ _ _ _ _ H8.tl.tl.hd (by omega)).mono ?_
  rintro e w9 ⟨rfl, -, hm⟩
  have H9 := H8.front2.tl.mid hm ((((((Apart.nil _ _).cons (.inl (show w.heap.size ≤ w3.heap.size by omega))).cons (.inl (show w2.heap.size ≤ w3.heap.size by omega))).cons (.inl (show w3.heap.size ≤ w3.heap.size by omega))).cons (.inr (show w4.heap.size ≤ w4.heap.size by omega))).cons (.inr (show w4.heap.size ≤ w6.heap.size by omega)))
  have B9 : Below w.heap.size w w9 := B8.trans (hm.below (by omega) (by omega))
  have s9 := hm.size
  clear hm
  clear H8
  have hk5 : decide ((1 : Int) + (m : Int) * 2 < 0) = false := decide_eq_false (by omega)
  go_wp2_with fail
  refine (eqNoteS_self _ _ _ _ _ _ _ H9.tl.norn H9.tl.tl.norn (by omega)).mono ?_
  rintro e w10 ⟨rfl, hn⟩
  have H10 := H9.call hn
  have B10 : Below w.heap.size w w10 := bl (by go_grown) (by first | exact Nat.le_refl _ | (simp; done) | (simp; omega)) hn
  have s10 : w9.heap.size ≤ w10.heap.size := by have := hn.size; simpa using this
  clear hn
  clear H9
  go_wp2_with fail
  refine (markNoteS_1 _ _ _ _ _ _ _ H10.tl.hd (by omega)).mono ?_
  rintro e w11 ⟨rfl, ho, hm⟩
  have H11 := (H10.front1.tl.mid hm (((((Apart.nil _ _).cons (.inl (show w.heap.size ≤ w4.heap.size by omega))).cons (.inl (show w2.heap.size ≤ w4.heap.size by omega))).cons (.inl (show w3.heap.size ≤ w4.heap.size by omega))).cons (.inr (show w5.heap.size ≤ w6.heap.size by omega)))).no (Nat.le_trans H10.tl.hi hm.size) ho
  have B11 : Below w.heap.size w w11 := B10.trans (hm.below (by omega) (by omega))
  have s11 := hm.size
  clear hm ho
  clear H10
  go_wp2_with fail
  refine (heldNoteS_1 _ _ _ _ H11.norn (by omega)).mono ?_
  rintro e w12 ⟨rfl, hn⟩
  have H12 := H11.call hn
  have B12 : Below w.heap.size w w12 := bl (by go_grown) (by first | exact Nat.le_refl _ | (simp; done) | (simp; omega)) hn
  have s12 : w11.heap.size ≤ w12.heap.size := by have := hn.size; simpa using this
  clear hn
  clear H11
  go_wp2_with fail
  refine (toNoteS_any A m c N _ H12.tl.tl.tl.tl.nsup (by omega)).mono ?_
  rintro e w13 ⟨rfl, ho, hn⟩
  have H13 := H12.call hn
  have B13 : Below w.heap.size w w13 := bl (by go_grown) (by first | exact Nat.le_refl _ | (simp; done) | (simp; omega)) hn
  have s13 : w12.heap.size ≤ w13.heap.size := by have := hn.size; simpa using this
  (try simp only [World.size_alloc] at ho)
  have H13 := H13.no (Nat.le_refl _) ho
  clear hn ho
  clear H12
  go_wp2_with fail
  refine (I.out _ _ _ (Nat.le_refl _) H13.norn).mono ?_
  rintro e w14 ⟨AV, cV, rfl, ho, hn⟩
  have H14 := H13.call hn
  have B14 : Below w.heap.size w w14 := bl (by go_grown) (by first | exact Nat.le_refl _ | (simp; done) | (simp; omega)) hn
  have s14 : w13.heap.size ≤ w14.heap.size := by have := hn.size; simpa using this
  (try simp only [World.size_alloc] at ho)
  have H14 := H14.no (Nat.le_refl _) ho
  clear hn ho
  clear H13
  go_wp2_with fail
  refine (eqNoteS_self _ _ _ _ _ _ _ H14.norn H14.tl.tl.tl.tl.norn (by omega)).mono ?_
  rintro e w15 ⟨rfl, hn⟩
  have H15 := H14.call hn
  have B15 : Below w.heap.size w w15 := bl (by go_grown) (by first | exact Nat.le_refl _ | (simp; done) | (simp; omega)) hn
  have s15 : w14.heap.size ≤ w15.heap.size := by have := hn.size; simpa using this
  clear hn
  clear H14
  go_wp2_with fail
  refine (heldNoteS_1 _ _ _ _ H15.tl.tl.norn (by omega)).mono ?_
  rintro e w16 ⟨rfl, hn⟩
  have H16 := H15.call hn
  have B16 : Below w.heap.size w w16 := bl (by go_grown) (by first | exact Nat.le_refl _ | (simp; done) | (simp; omega)) hn
  have s16 : w15.heap.size ≤ w16.heap.size := by have := hn.size; simpa using this
  clear hn
  clear H15
  go_wp2
  go_ret
  exact ⟨rfl, by go_grown⟩
set_option maxRecDepth 100000 in
theorem w_FnExactRegisterLate (A : Option Addr) (m c : Nat) (N : Nat → ND) (k : Int) (w : World) (p : IsNotes w A m c N) (_wk : (Lit.int .i64 k).wf = true) :
    Calls Try.prog 9 #[.slice A m c, .int .i64 k] w fun e w' => e = .returned (.bool true) ∧ Below w.heap.size w w' := by
  obtain ⟨hc, hm, hp, hx⟩ := p
  by_cases hsz : (m : Int) + totS N m ≤ 1048576
  · obtain ⟨ok, q, M, hq, hS, hI⟩ := d_RegLate m N k (by omega)
    exact x_FnExactRegisterLate A m c N k w hp (by omega) hx hsz ok q M hq hS hI
  · have Y := Lib.hid (szW_no (n := m) (N := N) (left := 1048576) hsz)
    have HX := Lib.hid hx
    clear hsz hx
    go_enter Try.func9, Try.ntmps9
    go_wp2_with fail
    refine (szNoteS_any A m c N 1048576 _ hp (by omega) (by omega) (by omega) HX.out).mono ?_
    rintro e w1 ⟨rfl, hn⟩
    rw [Y.out]
    clear hp
    go_wp2
    go_ret
    exact ⟨rfl, hn⟩
end Go.Proofs.Ytanfhgliilkhjaa
