/-
  The walk of FnExactRegisterValid.
-/
import Derived.Test.YtanfhgliilkhjaaRegVd
namespace Go.Proofs.Ytanfhgliilkhjaa
open Go.RowKit Go.Deep
set_option linter.unusedVariables false

set_option maxRecDepth 100000 in
set_option maxHeartbeats 4000000 in
theorem x_FnExactRegisterValid (A : Option Addr) (m c : Nat) (N : Nat → ND) (w : World) (h : NsRn w w.heap.size A m N) (hc : m ≤ 9223372036854775807) (hmx : ∀ i, i < m → (N i).s.size ≤ 9223372036854775807) (hsz : (m : Int) + totS N m ≤ 1048576)
    (ok : Bool)
    (hS : ∀ (W : World) (g d : Nat), m ≤ d → NsRn W W.heap.size (some ⟨g, 0, none⟩) m N → Calls Try.prog 23 #[.slice (some ⟨g, 0, none⟩) m d] W fun e w' => e = .returned (.bool ok) ∧ Below W.heap.size W w')
    (hI : ∀ (W : World) (g d : Nat), m ≤ d → NsRn W W.heap.size (some ⟨g, 0, none⟩) m N → Calls Try.prog 25 #[.slice (some ⟨g, 0, none⟩) m d] W fun e w' => e = .returned (.bool ok) ∧ Below W.heap.size W w') :
    Calls Try.prog 4 #[.slice A m c] w fun e w' => e = .returned (.bool true) ∧ Below w.heap.size w w' := by
  have B0 : Below w.heap.size w w := Below.refl _ _
  have H0 : Hold w [nsA w.heap.size A m N] := (Hold.nil w).ns (Nat.le_refl _) h
  have Y := Lib.hid (szW_yes (n := m) (N := N) (left := 1048576) (by omega))
  have HX := Lib.hid hmx
  have S := Lib.hid hS
  have I := Lib.hid hI
  clear hS hI h hmx
  obtain ⟨t, ht⟩ : ∃ t, totS N m = t := ⟨_, rfl⟩
  rw [ht] at hsz Y
  clear ht
  go_enter Try.func4, Try.ntmps4
  go_wp2_with fail
  refine (szNoteS_any A m c N 1048576 _ H0.nsup (by omega) (by omega) hc HX.out).mono ?_
  rintro e w1 ⟨rfl, hn⟩
  have H1 := H0.call hn
  have B1 : Below w.heap.size w w1 := bl (by go_grown) (by first | exact Nat.le_refl _ | (simp; done) | (simp; omega)) hn
  have s1 : w.heap.size ≤ w1.heap.size := by have := hn.size; simpa using this
  clear hn
  clear H0
  rw [Y.out]
  go_wp2_with fail
  refine (toNoteS_any A m c N _ H1.nsup (by omega)).mono ?_
  rintro e w2 ⟨rfl, ho, hn⟩
  have H2 := H1.call hn
  have B2 : Below w.heap.size w w2 := bl (by go_grown) (by first | exact Nat.le_refl _ | (simp; done) | (simp; omega)) hn
  have s2 : w1.heap.size ≤ w2.heap.size := by have := hn.size; simpa using this
  (try simp only [World.size_alloc] at ho)
  have H2 := H2.no (Nat.le_refl _) ho
  clear hn ho
  clear H1
  go_wp2_with fail
  refine (S.out _ _ _ (Nat.le_refl _) H2.norn).mono ?_
  rintro e w3 ⟨rfl, hn⟩
  have H3 := H2.call hn
  have B3 : Below w.heap.size w w3 := bl (by go_grown) (by first | exact Nat.le_refl _ | (simp; done) | (simp; omega)) hn
  have s3 : w2.heap.size ≤ w3.heap.size := by have := hn.size; simpa using this
  clear hn
  clear H2
  go_wp2_with fail
  refine (toNoteS_any A m c N _ H3.tl.nsup (by omega)).mono ?_
  rintro e w4 ⟨rfl, ho, hn⟩
  have H4 := H3.call hn
  have B4 : Below w.heap.size w w4 := bl (by go_grown) (by first | exact Nat.le_refl _ | (simp; done) | (simp; omega)) hn
  have s4 : w3.heap.size ≤ w4.heap.size := by have := hn.size; simpa using this
  (try simp only [World.size_alloc] at ho)
  have H4 := H4.no (Nat.le_refl _) ho
  clear hn ho
  clear H3
  go_wp2_with fail
  refine (I.out _ _ _ (Nat.le_refl _) H4.norn).mono ?_
  rintro e w5 ⟨rfl, hn⟩
  have H5 := H4.call hn
  have B5 : Below w.heap.size w w5 := bl (by go_grown) (by first | exact Nat.le_refl _ | (simp; done) | (simp; omega)) hn
  have s5 : w4.heap.size ≤ w5.heap.size := by have := hn.size; simpa using this
  clear hn
  clear H4
  go_wp2_with fail
  refine (toNoteS_any A m c N _ H5.tl.tl.nsup (by omega)).mono ?_
  rintro e w6 ⟨rfl, ho, hn⟩
  have H6 := H5.call hn
  have B6 : Below w.heap.size w w6 := bl (by go_grown) (by first | exact Nat.le_refl _ | (simp; done) | (simp; omega)) hn
  have s6 : w5.heap.size ≤ w6.heap.size := by have := hn.size; simpa using this
  (try simp only [World.size_alloc] at ho)
  have H6 := H6.no (Nat.le_refl _) ho
  clear hn ho
  clear H5
  go_wp2_with fail
  refine (eqNoteS_self _ _ _ _ _ _ _ H6.tl.norn H6.norn (by omega)).mono ?_
  rintro e w7 ⟨rfl, hn⟩
  have H7 := H6.call hn
  have B7 : Below w.heap.size w w7 := bl (by go_grown) (by first | exact Nat.le_refl _ | (simp; done) | (simp; omega)) hn
  have s7 : w6.heap.size ≤ w7.heap.size := by have := hn.size; simpa using this
  clear hn
  clear H6
  go_wp2
  go_ret
  exact ⟨rfl, by go_grown⟩
set_option maxRecDepth 100000 in
theorem w_FnExactRegisterValid (A : Option Addr) (m c : Nat) (N : Nat → ND) (w : World) (p : IsNotes w A m c N) :
    Calls Try.prog 4 #[.slice A m c] w fun e w' => e = .returned (.bool true) ∧ Below w.heap.size w w' := by
  obtain ⟨hc, hm, hp, hx⟩ := p
  by_cases hsz : (m : Int) + totS N m ≤ 1048576
  · obtain ⟨ok, hS, hI⟩ := d_RegValid m N (by omega)
    exact x_FnExactRegisterValid A m c N w hp (by omega) hx hsz ok hS hI
  · have Y := Lib.hid (szW_no (n := m) (N := N) (left := 1048576) hsz)
    have HX := Lib.hid hx
    clear hsz hx
    go_enter Try.func4, Try.ntmps4
    go_wp2_with fail
    refine (szNoteS_any A m c N 1048576 _ hp (by omega) (by omega) (by omega) HX.out).mono ?_
    rintro e w1 ⟨rfl, hn⟩
    rw [Y.out]
    clear hp
    go_wp2
    go_ret
    exact ⟨rfl, hn⟩
end Go.Proofs.Ytanfhgliilkhjaa
