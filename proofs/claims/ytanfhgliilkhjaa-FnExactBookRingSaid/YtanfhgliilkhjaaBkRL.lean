/-
  The walk of FnExactBookRing.
-/
import Derived.Test.YtanfhgliilkhjaaBkFr
namespace Go.Proofs.Ytanfhgliilkhjaa
open Go.RowKit
set_option linter.unusedVariables false

/-- What BookRing hands back, as the law uses it. -/
def RingOut (w : World) (ok : Bool) (q : Nat) (g : Nat → Int) (e : Ending) (w' : World) : Prop :=
  ∃ (A : Option Addr) (c : Nat), e = .returned (.tuple #[.slice A q c, .bool ok]) ∧ (∃ b, (0 < q → w.heap.size ≤ b ∧ b < w'.heap.size) ∧ Ow w' b A q g) ∧ Below w.heap.size w w'
theorem RingRes.out {w w' : World} {ok : Bool} {xs : List Int} {e : Ending} (h : RingRes w ok xs e w') : RingOut w ok xs.length (fun i => xs.getD i 0) e w' := by
  obtain ⟨g, c, he, hg, ho, hb⟩ := h
  exact ⟨_, c, he, ⟨g, fun _ => hg, ho⟩, hb⟩
theorem ringV_ex (D : Nat → LD) (m n : Nat) (f : Nat → Int) : ∃ ok xs, RingV D m n f ok xs ∧ xs.length ≤ 20 := by
  rcases Classical.em (ringV D m n f) with h | h
  · exact ⟨true, _, .inl ⟨h, rfl, rfl⟩, h.2.2⟩
  · exact ⟨false, _, .inr ⟨h, rfl, rfl⟩, by simp⟩
theorem szIntSS_b (A : Option Addr) (n c : Nat) (D : Nat → LD) (left : Int) (w : World) (h : SsRn w w.heap.size A n D) (h0 : 0 ≤ left) (h1 : left ≤ 1048576) (hn : n ≤ 9223372036854775807) (hD : ∀ i, i < n → (D i).n ≤ 9223372036854775807) :
    Calls Try.prog 12 #[.slice A n c, .int .i64 left] w fun e w' => e = .returned (.int .i64 (szL n D left)) ∧ Below w.heap.size w w' :=
  (szIntSS_any A n c D left w h h0 h1 hn hD).mono fun _ _ ⟨he, hw⟩ => ⟨he, by rw [hw]; exact Below.refl _ _⟩
theorem markInts_ow (lo hi : Nat) (A : Option Addr) (n c : Nat) (f : Nat → Int) (k0 : Int) (w : World) (h : ∃ b, (0 < n → lo ≤ b ∧ b < hi) ∧ Ow w b A n f) (hk0 : 0 ≤ k0) (hk1 : k0 ≤ 1000000000) (hn : n ≤ 1048576) :
    Calls Try.prog 20 #[.slice A n c, .int .i64 k0] w fun e w' => e = .returned (.int .i64 (k0 + n)) ∧ Mid lo hi w w' :=
  (markInts_ow2 lo hi A n c f k0 w h hk0 hk1 hn).mono fun _ _ ⟨he, _, hm⟩ => ⟨he, hm⟩
set_option maxHeartbeats 8000000 in
theorem x_FnExactBookRing (A : Option Addr) (m c : Nat) (D : Nat → LD) (R : Option Addr) (r rc : Nat) (f : Nat → Int) (w : World) (h : SsRn w w.heap.size A m D) (hc : m ≤ 9223372036854775807) (hmx : ∀ i, i < m → (D i).n ≤ 9223372036854775807) (hsz : (m : Int) + totL D m ≤ 1048576) (hR : Rn w w.heap.size R r f) (hr : r ≤ 1048576)
    (ok : Bool) (q : Nat) (g : Nat → Int) (hq : q ≤ 20)
    (hS : ∀ (W : World) (E : Option Addr) (d : Nat) (R : Option Addr) (rd : Nat), SsRn W W.heap.size E m D → Rn W W.heap.size R r f → Calls Try.prog 13 #[.slice E m d, .slice R r rd] W (RingOut W ok q g))
    (hI : ∀ (W : World) (E : Option Addr) (d : Nat) (R : Option Addr) (rd : Nat), SsRn W W.heap.size E m D → Rn W W.heap.size R r f → Calls Try.prog 16 #[.slice E m d, .slice R r rd] W (RingOut W ok q g)) :
    Calls Try.prog 3 #[.slice A m c, .slice R r rc] w fun e w' => e = .returned (.bool true) ∧ Below w.heap.size w w' := by
  have B0 : Below w.heap.size w w := Below.refl _ _
  have H0 : Hold w [rnA w.heap.size R r f, ssA w.heap.size A m D] := ((Hold.nil w).ss (Nat.le_refl _) h).rn (Nat.le_refl _) hR
  have Y := Lib.hid (szL_yes (n := m) (D := D) (left := 1048576) hsz)
  have HD := Lib.hid (show ∀ i, i < m → (D i).n ≤ 1048576 from fun i hi => by have := totL_at D hi; omega)
  have HX := Lib.hid hmx
  have S := Lib.hid hS
  have I := Lib.hid hI
  have hd0 : decide ((1048576 : Int) < (r : Int)) = false := decide_eq_false (by omega)
  have hd1 : decide (1048576 < r) = false := decide_eq_false (by omega)
  clear hS hI h hR hmx
  obtain ⟨t, ht⟩ : ∃ t, totL D m = t := ⟨_, rfl⟩
  rw [ht] at hsz Y
  have TT := Lib.hid ht
  clear ht
  go_enter Try.func3, Try.ntmps3
  go_wp2_with fail
  refine (szIntSS_b A m c D 1048576 _ H0.tl.ssup (by omega) (by omega) hc HX.out).mono ?_
  rintro e w1 ⟨rfl, hn⟩
  have H1 := H0.call hn
  have B1 : Below w.heap.size w w1 := bl (by go_grown) (by first | exact Nat.le_refl _ | (simp; done) | (simp; omega)) hn
  have s1 : w.heap.size ≤ w1.heap.size := by have := hn.size; simpa using this
  clear hn
  clear H0
  rw [Y.out]
  go_wp2_with fail
  refine (toIntSS_any A m c D _ H1.tl.ssup (by omega) HD.out).mono ?_
  rintro e w2 ⟨rfl, ho, hn⟩
  have H2 := H1.call hn
  have B2 : Below w.heap.size w w2 := bl (by go_grown) (by first | exact Nat.le_refl _ | (simp; done) | (simp; omega)) hn
  have s2 : w1.heap.size ≤ w2.heap.size := by have := hn.size; simpa using this
  (try simp only [World.size_alloc] at ho)
  have H2 := H2.st (Nat.le_refl _) ho
  clear hn ho
  clear H1
  go_wp2_with fail
  refine (toInts_ow R r rc f _ H2.tl.rnup (by omega)).mono ?_
  rintro e w3 ⟨rfl, ho, hn⟩
  have H3 := H2.call hn
  have B3 : Below w.heap.size w w3 := bl (by go_grown) (by first | exact Nat.le_refl _ | (simp; done) | (simp; omega)) hn
  have s3 : w2.heap.size ≤ w3.heap.size := by have := hn.size; simpa using this
  (try simp only [World.size_alloc] at ho)
  have H3 := H3.ow (Nat.le_refl _) ho
  clear hn ho
  clear H2
  go_wp2_with fail
  refine (S.out _ _ _ _ _ H3.tl.strn H3.owrn).mono ?_
  rintro e w4 ⟨AW, cW, rfl, ho, hn⟩
  have H4 := H3.call hn
  have B4 : Below w.heap.size w w4 := bl (by go_grown) (by first | exact Nat.le_refl _ | (simp; done) | (simp; omega)) hn
  have s4 : w3.heap.size ≤ w4.heap.size := by have := hn.size; simpa using this
  (try simp only [World.size_alloc] at ho)
  have H4 := H4.ow (Nat.le_refl _) ho
  clear hn ho
  clear H3
  go_wp2_with fail
  refine (toIntSS_any A m c D _ H4.tl.tl.tl.tl.ssup (by omega) HD.out).mono ?_
  rintro e w5 ⟨rfl, ho, hn⟩
  have H5 := H4.call hn
  have B5 : Below w.heap.size w w5 := bl (by go_grown) (by first | exact Nat.le_refl _ | (simp; done) | (simp; omega)) hn
  have s5 : w4.heap.size ≤ w5.heap.size := by have := hn.size; simpa using this
  (try simp only [World.size_alloc] at ho)
  have H5 := H5.st (Nat.le_refl _) ho
  clear hn ho
  clear H4
  go_wp2_with fail
  refine (toInts_ow R r rc f _ H5.tl.tl.tl.tl.rnup (by omega)).mono ?_
  rintro e w6 ⟨rfl, ho, hn⟩
  have H6 := H5.call hn
  have B6 : Below w.heap.size w w6 := bl (by go_grown) (by first | exact Nat.le_refl _ | (simp; done) | (simp; omega)) hn
  have s6 : w5.heap.size ≤ w6.heap.size := by have := hn.size; simpa using this
  (try simp only [World.size_alloc] at ho)
  have H6 := H6.ow (Nat.le_refl _) ho
  clear hn ho
  clear H5
  go_wp2_with fail
  refine (I.out _ _ _ _ _ H6.tl.strn H6.owrn).mono ?_
  rintro e w7 ⟨AG, cG, rfl, ho, hn⟩
  have H7 := H6.call hn
  have B7 : Below w.heap.size w w7 := bl (by go_grown) (by first | exact Nat.le_refl _ | (simp; done) | (simp; omega)) hn
  have s7 : w6.heap.size ≤ w7.heap.size := by have := hn.size; simpa using this
  (try simp only [World.size_alloc] at ho)
  have H7 := H7.ow (Nat.le_refl _) ho
  clear hn ho
  clear H6
  go_wp2_with fail
  refine (eqInts_self _ _ _ _ _ _ _ H7.owrn H7.tl.tl.tl.owrn (by omega)).mono ?_
  rintro e w8 ⟨rfl, hn⟩
  have H8 := H7.call hn
  have B8 : Below w.heap.size w w8 := bl (by go_grown) (by first | exact Nat.le_refl _ | (simp; done) | (simp; omega)) hn
  have s8 : w7.heap.size ≤ w8.heap.size := by have := hn.size; simpa using this
  clear hn
  clear H7
  cases ok
  all_goals
    go_wp2_with fail
    refine (toIntSS_any A m c D _ H8.tl.tl.tl.tl.tl.tl.tl.ssup (by omega) HD.out).mono ?_
    rintro e w9 ⟨rfl, ho, hn⟩
    have H9 := H8.call hn
    have B9 : Below w.heap.size w w9 := bl (by go_grown) (by first | exact Nat.le_refl _ | (simp; done) | (simp; omega)) hn
    have s9 : w8.heap.size ≤ w9.heap.size := by have := hn.size; simpa using this
    (try simp only [World.size_alloc] at ho)
    have H9 := H9.st (Nat.le_refl _) ho
    clear hn ho
    clear H8
    go_wp2_with fail
    refine (eqIntSS_self _ _ _ _ _ _ _ H9.tl.tl.tl.strn H9.strn (by omega) HD.out).mono ?_
    rintro e w10 ⟨rfl, hn⟩
    have H10 := H9.call hn
    have B10 : Below w.heap.size w w10 := bl (by go_grown) (by first | exact Nat.le_refl _ | (simp; done) | (simp; omega)) hn
    have s10 : w9.heap.size ≤ w10.heap.size := by have := hn.size; simpa using this
    clear hn
    clear H9
    go_wp2_with fail
    refine (toInts_ow R r rc f _ H10.tl.tl.tl.tl.tl.tl.tl.rnup (by omega)).mono ?_
    rintro e w11 ⟨rfl, ho, hn⟩
    have H11 := H10.call hn
    have B11 : Below w.heap.size w w11 := bl (by go_grown) (by first | exact Nat.le_refl _ | (simp; done) | (simp; omega)) hn
    have s11 : w10.heap.size ≤ w11.heap.size := by have := hn.size; simpa using this
    (try simp only [World.size_alloc] at ho)
    have H11 := H11.ow (Nat.le_refl _) ho
    clear hn ho
    clear H10
    go_wp2_with fail
    refine (eqInts_self _ _ _ _ _ _ _ H11.tl.tl.tl.owrn H11.owrn (by omega)).mono ?_
    rintro e w12 ⟨rfl, hn⟩
    have H12 := H11.call hn
    have B12 : Below w.heap.size w w12 := bl (by go_grown) (by first | exact Nat.le_refl _ | (simp; done) | (simp; omega)) hn
    have s12 : w11.heap.size ≤ w12.heap.size := by have := hn.size; simpa using this
    clear hn
    clear H11
    go_wp2_with fail
    refine (markIntSS_is t _ _ _ _ _ _ _ 1 _ H12.tl.tl.tl.tl.hd H12.tl.tl.tl.tl.hi (by omega) (by omega) TT.out (by omega)).mono ?_
    rintro e w13 ⟨rfl, hm⟩
    have H13 := H12.front4.tl.mid hm ((((((((((Apart.nil _ _).cons (.inl (show w.heap.size ≤ w4.heap.size by omega))).cons (.inl (show w.heap.size ≤ w4.heap.size by omega))).cons (.inl (show w2.heap.size ≤ w4.heap.size by omega))).cons (.inl (show w3.heap.size ≤ w4.heap.size by omega))).cons (.inl (show w4.heap.size ≤ w4.heap.size by omega))).cons (.inr (show w5.heap.size ≤ w5.heap.size by omega))).cons (.inr (show w5.heap.size ≤ w6.heap.size by omega))).cons (.inr (show w5.heap.size ≤ w8.heap.size by omega))).cons (.inr (show w5.heap.size ≤ w10.heap.size by omega)))
    have B13 : Below w.heap.size w w13 := B12.trans (hm.below (by omega) (by omega))
    have s13 := hm.size
    clear hm
    clear H12
    go_wp2_with fail
    refine (markInts_ow _ _ _ _ _ _ _ _ H13.tl.tl.tl.hd (by omega) (by omega) (by omega)).mono ?_
    rintro e w14 ⟨rfl, hm⟩
    have H14 := H13.front3.tl.mid hm (((((((((Apart.nil _ _).cons (.inl (show w.heap.size ≤ w5.heap.size by omega))).cons (.inl (show w.heap.size ≤ w5.heap.size by omega))).cons (.inl (show w2.heap.size ≤ w5.heap.size by omega))).cons (.inl (show w3.heap.size ≤ w5.heap.size by omega))).cons (.inl (show w4.heap.size ≤ w5.heap.size by omega))).cons (.inr (show w6.heap.size ≤ w6.heap.size by omega))).cons (.inr (show w6.heap.size ≤ w8.heap.size by omega))).cons (.inr (show w6.heap.size ≤ w10.heap.size by omega)))
    have B14 : Below w.heap.size w w14 := B13.trans (hm.below (by omega) (by omega))
    have s14 := hm.size
    clear hm
    clear H13
    have hk5 : decide ((1 : Int) + (t : Int) + (r : Int) < 0) = false := decide_eq_false (by omega)
    go_wp2_with fail
    refine (eqInts_self _ _ _ _ _ _ _ H14.tl.tl.owrn H14.tl.tl.tl.owrn (by omega)).mono ?_
    rintro e w15 ⟨rfl, hn⟩
    have H15 := H14.call hn
    have B15 : Below w.heap.size w w15 := bl (by go_grown) (by first | exact Nat.le_refl _ | (simp; done) | (simp; omega)) hn
    have s15 : w14.heap.size ≤ w15.heap.size := by have := hn.size; simpa using this
    clear hn
    clear H14
    go_wp2_with fail
    refine (markInts_ow2 _ _ _ _ _ _ 1 _ H15.tl.tl.hd (by omega) (by omega) (by omega)).mono ?_
    rintro e w16 ⟨rfl, ho, hm⟩
    have H16 := (H15.front2.tl.mid hm ((((((((Apart.nil _ _).cons (.inl (show w.heap.size ≤ w6.heap.size by omega))).cons (.inl (show w.heap.size ≤ w6.heap.size by omega))).cons (.inl (show w2.heap.size ≤ w6.heap.size by omega))).cons (.inl (show w3.heap.size ≤ w6.heap.size by omega))).cons (.inl (show w4.heap.size ≤ w6.heap.size by omega))).cons (.inr (show w7.heap.size ≤ w8.heap.size by omega))).cons (.inr (show w7.heap.size ≤ w10.heap.size by omega)))).ow (Nat.le_trans H15.tl.tl.hi hm.size) ho
    have B16 : Below w.heap.size w w16 := B15.trans (hm.below (by omega) (by omega))
    have s16 := hm.size
    clear hm ho
    clear H15
    go_wp2_with fail
    refine (heldInts_b _ _ _ 1 _ H16.owrn (by omega) (by omega) (by omega)).mono ?_
    rintro e w17 ⟨rfl, hn⟩
    have H17 := H16.call hn
    have B17 : Below w.heap.size w w17 := bl (by go_grown) (by first | exact Nat.le_refl _ | (simp; done) | (simp; omega)) hn
    have s17 : w16.heap.size ≤ w17.heap.size := by have := hn.size; simpa using this
    clear hn
    clear H16
    go_wp2_with fail
    refine (toIntSS_any A m c D _ H17.tl.tl.tl.tl.tl.tl.tl.ssup (by omega) HD.out).mono ?_
    rintro e w18 ⟨rfl, ho, hn⟩
    have H18 := H17.call hn
    have B18 : Below w.heap.size w w18 := bl (by go_grown) (by first | exact Nat.le_refl _ | (simp; done) | (simp; omega)) hn
    have s18 : w17.heap.size ≤ w18.heap.size := by have := hn.size; simpa using this
    (try simp only [World.size_alloc] at ho)
    have H18 := H18.st (Nat.le_refl _) ho
    clear hn ho
    clear H17
    go_wp2_with fail
    refine (toInts_ow R r rc f _ H18.tl.tl.tl.tl.tl.tl.tl.rnup (by omega)).mono ?_
    rintro e w19 ⟨rfl, ho, hn⟩
    have H19 := H18.call hn
    have B19 : Below w.heap.size w w19 := bl (by go_grown) (by first | exact Nat.le_refl _ | (simp; done) | (simp; omega)) hn
    have s19 : w18.heap.size ≤ w19.heap.size := by have := hn.size; simpa using this
    (try simp only [World.size_alloc] at ho)
    have H19 := H19.ow (Nat.le_refl _) ho
    clear hn ho
    clear H18
    go_wp2_with fail
    refine (I.out _ _ _ _ _ H19.tl.strn H19.owrn).mono ?_
    rintro e w20 ⟨AV, cV, rfl, ho, hn⟩
    have H20 := H19.call hn
    have B20 : Below w.heap.size w w20 := bl (by go_grown) (by first | exact Nat.le_refl _ | (simp; done) | (simp; omega)) hn
    have s20 : w19.heap.size ≤ w20.heap.size := by have := hn.size; simpa using this
    (try simp only [World.size_alloc] at ho)
    have H20 := H20.ow (Nat.le_refl _) ho
    clear hn ho
    clear H19
    go_wp2_with fail
    refine (eqInts_self _ _ _ _ _ _ _ H20.owrn H20.tl.tl.tl.tl.tl.tl.owrn (by omega)).mono ?_
    rintro e w21 ⟨rfl, hn⟩
    have H21 := H20.call hn
    have B21 : Below w.heap.size w w21 := bl (by go_grown) (by first | exact Nat.le_refl _ | (simp; done) | (simp; omega)) hn
    have s21 : w20.heap.size ≤ w21.heap.size := by have := hn.size; simpa using this
    clear hn
    clear H20
    go_wp2_with fail
    refine (heldInts_b _ _ _ 1 _ H21.tl.tl.tl.owrn (by omega) (by omega) (by omega)).mono ?_
    rintro e w22 ⟨rfl, hn⟩
    have H22 := H21.call hn
    have B22 : Below w.heap.size w w22 := bl (by go_grown) (by first | exact Nat.le_refl _ | (simp; done) | (simp; omega)) hn
    have s22 : w21.heap.size ≤ w22.heap.size := by have := hn.size; simpa using this
    clear hn
    clear H21
    go_wp2
    go_ret
    exact ⟨rfl, by go_grown⟩
theorem w_FnExactBookRing (A : Option Addr) (m c : Nat) (D : Nat → LD) (R : Option Addr) (r rc : Nat) (z : List Int) (w : World) (q : IsLists w A m c D) (qr : IsRow .i64 w R r rc z) :
    Calls Try.prog 3 #[.slice A m c, .slice R r rc] w fun e w' => e = .returned (.bool true) ∧ Below w.heap.size w w' := by
  obtain ⟨hc, hm, hp, hx⟩ := q
  obtain ⟨hR, hr1, hr2⟩ := qr.rn
  by_cases hr : r ≤ 1048576
  rotate_left
  · have hd0 : decide ((1048576 : Int) < (r : Int)) = true := decide_eq_true (by omega)
    have hd1 : decide (1048576 < r) = true := decide_eq_true (by omega)
    clear hR hp hx qr
    go_enter Try.func3, Try.ntmps3
    go_wp2
    go_ret
    exact ⟨rfl, Below.refl _ _⟩
  by_cases hsz : (m : Int) + totL D m ≤ 1048576
  · obtain ⟨ok, xs, hv, hl⟩ := ringV_ex D m r (fun i => z.getD i 0)
    have hD : ∀ i, i < m → (D i).n ≤ 1048576 := fun i hi => by have := totL_at D hi; omega
    exact x_FnExactBookRing A m c D R r rc _ w hp (by omega) hx hsz hR hr ok _ _ hl (fun W E d R rd p q => (sRing E m d D R r rd _ W p (by omega) hD q (by omega) ok xs hv).mono fun _ _ h => h.out) (fun W E d R rd p q => (iRing E m d D R r rd _ W p (by omega) hD q (by omega) ok xs hv).mono fun _ _ h => h.out)
  · have Y := Lib.hid (szL_no (n := m) (D := D) (left := 1048576) hsz)
    have HX := Lib.hid hx
    have hd0 : decide ((1048576 : Int) < (r : Int)) = false := decide_eq_false (by omega)
    have hd1 : decide (1048576 < r) = false := decide_eq_false (by omega)
    clear hsz hx hR qr
    go_enter Try.func3, Try.ntmps3
    go_wp2_with fail
    refine (szIntSS_b A m c D 1048576 _ hp (by omega) (by omega) (by omega) HX.out).mono ?_
    rintro e w1 ⟨rfl, hn⟩
    rw [Y.out]
    clear hp
    go_wp2
    go_ret
    exact ⟨rfl, hn⟩
end Go.Proofs.Ytanfhgliilkhjaa
