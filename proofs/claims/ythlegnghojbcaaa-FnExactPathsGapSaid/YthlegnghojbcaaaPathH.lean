/-
  Contracts of the small functions on paths by value: szPath, toPath, eqPath, markPath, heldPath.
-/
import Derived.Test.YthlegnghojbcaaaPathI
namespace Go.Proofs.Ythlegnghojbcaaa
open Go.RowKit
set_option linter.unusedVariables false

theorem szPath_yes (a1 a2 : Option Addr) (n1 c1 n2 c2 : Nat) (left : Int) (w : World) (h0 : (n1 : Int) + n2 ≤ left) (h1 : left ≤ 1048576) :
    Calls Try.prog 12 #[.agg #[.slice a1 n1 c1, .slice a2 n2 c2], .int .i64 left] w fun e w' => e = .returned (.int .i64 (left - n1 - n2)) ∧ Below w.heap.size w w' := by
  have y1 := Lib.hid (szI_yes (n := n1) (left := left) (by omega))
  have y2 := Lib.hid (szI_yes (n := n2) (left := left - n1) (by omega))
  go_enter Try.func12, Try.ntmps12
  go_wp2_with fail
  refine (szInts a1 n1 c1 left _ (by omega) h1 (by omega)).mono ?_
  rintro e w' ⟨rfl, rfl⟩
  rw [y1.out]
  go_wp2_with fail
  refine (szInts a2 n2 c2 (left - n1) _ (by omega) (by omega) (by omega)).mono ?_
  rintro e w' ⟨rfl, rfl⟩
  rw [y2.out]
  go_wp2
  go_ret
  exact ⟨rfl, by go_grown⟩
theorem szPath_no (a1 a2 : Option Addr) (n1 c1 n2 c2 : Nat) (left : Int) (w : World) (h0 : 0 ≤ left) (h1 : left ≤ 1048576) (h : left < (n1 : Int) + n2) (hn1 : n1 ≤ 9223372036854775807) (hn2 : n2 ≤ 9223372036854775807) :
    Calls Try.prog 12 #[.agg #[.slice a1 n1 c1, .slice a2 n2 c2], .int .i64 left] w fun e w' => e = .returned (.int .i64 (-1)) ∧ Below w.heap.size w w' := by
  by_cases hc : left - n1 < 0
  · have y1 := Lib.hid (szI_no hc)
    go_enter Try.func12, Try.ntmps12
    go_wp2_with fail
    refine (szInts a1 n1 c1 left _ (by omega) h1 (by omega)).mono ?_
    rintro e w' ⟨rfl, rfl⟩
    rw [y1.out]
    go_wp2
    go_ret
    exact ⟨rfl, by go_grown⟩
  · have y1 := Lib.hid (szI_yes hc)
    have y2 := Lib.hid (szI_no (n := n2) (left := left - n1) (by omega))
    go_enter Try.func12, Try.ntmps12
    go_wp2_with fail
    refine (szInts a1 n1 c1 left _ (by omega) h1 (by omega)).mono ?_
    rintro e w' ⟨rfl, rfl⟩
    rw [y1.out]
    go_wp2_with fail
    refine (szInts a2 n2 c2 (left - n1) _ (by omega) (by omega) (by omega)).mono ?_
    rintro e w' ⟨rfl, rfl⟩
    rw [y2.out]
    go_wp2
    go_ret
    exact ⟨rfl, by go_grown⟩
/-- A path has been made. -/
def NewPath (w : World) (n1 : Nat) (f1 : Nat → Int) (n2 : Nat) (f2 : Nat → Int) (e : Ending) (w' : World) : Prop :=
  ∃ b1 b2 : Nat, e = .returned (.agg #[.slice (some ⟨b1, 0, none⟩) n1 n1, .slice (some ⟨b2, 0, none⟩) n2 n2]) ∧ OwP w' w.heap.size w'.heap.size (some ⟨b1, 0, none⟩) n1 f1 (some ⟨b2, 0, none⟩) n2 f2 ∧ Below w.heap.size w w'
/-- The same, told of the two blocks. -/
def NewPath2 (w : World) (n1 : Nat) (f1 : Nat → Int) (n2 : Nat) (f2 : Nat → Int) (e : Ending) (w' : World) : Prop :=
  ∃ b1 b2 : Nat, e = .returned (.agg #[.slice (some ⟨b1, 0, none⟩) n1 n1, .slice (some ⟨b2, 0, none⟩) n2 n2]) ∧ (w.heap.size ≤ b1 ∧ b1 < b2 ∧ b2 < w'.heap.size) ∧ Ow w' b1 (some ⟨b1, 0, none⟩) n1 f1 ∧ Ow w' b2 (some ⟨b2, 0, none⟩) n2 f2 ∧ Below w.heap.size w w'
set_option maxHeartbeats 1000000 in
theorem toPath_two (a1 a2 : Option Addr) (n1 c1 n2 c2 : Nat) (f1 f2 : Nat → Int) (w : World) (r1 : Rn w w.heap.size a1 n1 f1) (r2 : Rn w w.heap.size a2 n2 f2) (hn1 : n1 ≤ 1048576) (hn2 : n2 ≤ 1048576) :
    Calls Try.prog 14 #[.agg #[.slice a1 n1 c1, .slice a2 n2 c2]] w (NewPath2 w n1 f1 n2 f2) := by
  go_enter Try.func14, Try.ntmps14
  go_wp2_with fail
  refine (toInts a1 n1 c1 f1 w.heap.size _ (((r1.alloc (by simp) _).alloc (by simp) _).alloc (by simp; omega) _) (by simp; omega) hn1).mono ?_
  rintro e w1 ⟨rfl, o1, hz, hn⟩
  have hb1 : Below w.heap.size w w1 := bl (by go_grown) (by first | exact Nat.le_refl _ | (simp; done) | (simp; omega)) hn
  have hc1_0 := fun o => hn.cell (p := ⟨w.heap.size, o, none⟩) (by first | omega | (simp; done) | (simp; omega))
  have hf1_0 := fun o => hn.frozen (p := ⟨w.heap.size, o, none⟩) (by first | omega | (simp; done) | (simp; omega))
  have hl1_0 : w.heap.size < w1.heap.size := Nat.lt_of_lt_of_le (by first | omega | (simp; done) | (simp; omega)) hn.size
  (try simp only [World.size_drew, World.cell?_drew, World.frozen?_drew] at hc1_0 hf1_0)
  have hc1_1 := fun o => hn.cell (p := ⟨w.heap.size + 1, o, none⟩) (by first | omega | (simp; done) | (simp; omega))
  have hf1_1 := fun o => hn.frozen (p := ⟨w.heap.size + 1, o, none⟩) (by first | omega | (simp; done) | (simp; omega))
  have hl1_1 : w.heap.size + 1 < w1.heap.size := Nat.lt_of_lt_of_le (by first | omega | (simp; done) | (simp; omega)) hn.size
  (try simp only [World.size_drew, World.cell?_drew, World.frozen?_drew] at hc1_1 hf1_1)
  have hc1_2 := fun o => hn.cell (p := ⟨w.heap.size + 1 + 1, o, none⟩) (by first | omega | (simp; done) | (simp; omega))
  have hf1_2 := fun o => hn.frozen (p := ⟨w.heap.size + 1 + 1, o, none⟩) (by first | omega | (simp; done) | (simp; omega))
  have hl1_2 : w.heap.size + 1 + 1 < w1.heap.size := Nat.lt_of_lt_of_le (by first | omega | (simp; done) | (simp; omega)) hn.size
  (try simp only [World.size_drew, World.cell?_drew, World.frozen?_drew] at hc1_2 hf1_2)
  have hz1 := hn.size
  (try simp at hz1)
  simp only [World.size_alloc] at o1 hz
  clear hn
  go_wp2_with fail
  refine (toInts a2 n2 c2 f2 w.heap.size _ ((r2.below hb1).store (by simp; omega) _) (by simp; omega) hn2).mono ?_
  rintro e w2 ⟨rfl, o2, hy, hn⟩
  have o1 := (o1.store (a := ⟨w.heap.size + 1 + 1, 0, none⟩) (by simp) (.slice (some ⟨w.heap.size + 1 + 1 + 1, 0, none⟩) n1 n1)).call hn
  have hb2 : Below w.heap.size w w2 := bl (by go_grown) (by first | exact Nat.le_refl _ | (simp; done) | (simp; omega)) hn
  have hc2_0 := fun o => hn.cell (p := ⟨w.heap.size, o, none⟩) (by first | omega | (simp; done) | (simp; omega))
  have hf2_0 := fun o => hn.frozen (p := ⟨w.heap.size, o, none⟩) (by first | omega | (simp; done) | (simp; omega))
  have hl2_0 : w.heap.size < w2.heap.size := Nat.lt_of_lt_of_le (by first | omega | (simp; done) | (simp; omega)) hn.size
  (try simp only [World.size_drew, World.cell?_drew, World.frozen?_drew] at hc2_0 hf2_0)
  have hc2_1 := fun o => hn.cell (p := ⟨w.heap.size + 1, o, none⟩) (by first | omega | (simp; done) | (simp; omega))
  have hf2_1 := fun o => hn.frozen (p := ⟨w.heap.size + 1, o, none⟩) (by first | omega | (simp; done) | (simp; omega))
  have hl2_1 : w.heap.size + 1 < w2.heap.size := Nat.lt_of_lt_of_le (by first | omega | (simp; done) | (simp; omega)) hn.size
  (try simp only [World.size_drew, World.cell?_drew, World.frozen?_drew] at hc2_1 hf2_1)
  have hc2_2 := fun o => hn.cell (p := ⟨w.heap.size + 1 + 1, o, none⟩) (by first | omega | (simp; done) | (simp; omega))
  have hf2_2 := fun o => hn.frozen (p := ⟨w.heap.size + 1 + 1, o, none⟩) (by first | omega | (simp; done) | (simp; omega))
  have hl2_2 : w.heap.size + 1 + 1 < w2.heap.size := Nat.lt_of_lt_of_le (by first | omega | (simp; done) | (simp; omega)) hn.size
  (try simp only [World.size_drew, World.cell?_drew, World.frozen?_drew] at hc2_2 hf2_2)
  have hz2 := hn.size
  (try simp at hz2)
  clear hn hb1 r1 r2
  simp only [World.size_setCell] at o2 hy ⊢
  generalize w1.heap.size = b2 at *
  go_wp2
  refine bodyPost_ret (by simp [results, Try.results14, go_sem, *]; rfl) rfl ?_
  refine ⟨w.heap.size + 1 + 1 + 1, b2, rfl, ⟨by omega, by omega, by simp; omega⟩, ?_, ?_, ?_⟩
  · exact ((o1.store (a := ⟨w.heap.size + 1 + 1, 1, none⟩) (by simp) _).store (a := ⟨w.heap.size + 1, 0, none⟩) (by simp; omega) _).store (a := ⟨w.heap.size + 1, 1, none⟩) (by simp; omega) _
  · exact ((o2.store (a := ⟨w.heap.size + 1 + 1, 1, none⟩) (by simp; omega) _).store (a := ⟨w.heap.size + 1, 0, none⟩) (by simp; omega) _).store (a := ⟨w.heap.size + 1, 1, none⟩) (by simp; omega) _
  · go_grown
theorem toPath_any (a1 a2 : Option Addr) (n1 c1 n2 c2 : Nat) (f1 f2 : Nat → Int) (w : World) (r1 : Rn w w.heap.size a1 n1 f1) (r2 : Rn w w.heap.size a2 n2 f2) (hn1 : n1 ≤ 1048576) (hn2 : n2 ≤ 1048576) :
    Calls Try.prog 14 #[.agg #[.slice a1 n1 c1, .slice a2 n2 c2]] w (NewPath w n1 f1 n2 f2) :=
  (toPath_two a1 a2 n1 c1 n2 c2 f1 f2 w r1 r2 hn1 hn2).mono fun _ _ ⟨b1, b2, he, hs, o1, o2, hb⟩ => ⟨b1, b2, he, ⟨b1, b2, fun _ => by omega, fun _ => by omega, by omega, o1, o2⟩, hb⟩
/-- eqPath. -/
def eqP (n1 : Nat) (f1 : Nat → Int) (n2 : Nat) (f2 : Nat → Int) (m1 : Nat) (g1 : Nat → Int) (m2 : Nat) (g2 : Nat → Int) : Bool := eqI n1 f1 m1 g1 && eqI n2 f2 m2 g2
theorem eqP_self (n1 : Nat) (f1 : Nat → Int) (n2 : Nat) (f2 : Nat → Int) : eqP n1 f1 n2 f2 n1 f1 n2 f2 = true := by simp [eqP, eqI_self]
theorem eqP_no1 {n1 m1 n2 m2 : Nat} {f1 g1 f2 g2 : Nat → Int} (h : eqI n1 f1 m1 g1 = false) : eqP n1 f1 n2 f2 m1 g1 m2 g2 = false := by simp [eqP, h]
theorem eqP_no2 {n1 m1 n2 m2 : Nat} {f1 g1 f2 g2 : Nat → Int} (h : eqI n2 f2 m2 g2 = false) : eqP n1 f1 n2 f2 m1 g1 m2 g2 = false := by simp [eqP, h]
theorem eqP_yes {n1 m1 n2 m2 : Nat} {f1 g1 f2 g2 : Nat → Int} (h : eqI n1 f1 m1 g1 = true) (h2 : eqI n2 f2 m2 g2 = true) : eqP n1 f1 n2 f2 m1 g1 m2 g2 = true := by simp [eqP, h, h2]
set_option maxHeartbeats 1000000 in
theorem eqPath_any (a1 a2 d1 d2 : Option Addr) (n1 c1 n2 c2 m1 e1 m2 e2 : Nat) (f1 f2 g1 g2 : Nat → Int) (w : World) (r1 : Rn w w.heap.size a1 n1 f1) (r2 : Rn w w.heap.size a2 n2 f2) (s1 : Rn w w.heap.size d1 m1 g1) (s2 : Rn w w.heap.size d2 m2 g2)
    (hn1 : n1 ≤ 1099511627776) (hn2 : n2 ≤ 1099511627776) (hm1 : m1 ≤ 1099511627776) (hm2 : m2 ≤ 1099511627776) :
    Calls Try.prog 16 #[.agg #[.slice a1 n1 c1, .slice a2 n2 c2], .agg #[.slice d1 m1 e1, .slice d2 m2 e2]] w fun e w' => e = .returned (.bool (eqP n1 f1 n2 f2 m1 g1 m2 g2)) ∧ Below w.heap.size w w' := by
  cases q1 : eqI n1 f1 m1 g1
  · have hr := hide (eqP_no1 (n2 := n2) (m2 := m2) (f2 := f2) (g2 := g2) q1)
    have Q1 := Lib.hid q1
    clear q1
    go_enter Try.func16, Try.ntmps16
    go_wp2_with fail
    refine (eqInts a1 n1 c1 f1 d1 m1 e1 g1 _ (r1.top2 _ _) (s1.top2 _ _) hn1 hm1).mono ?_
    rintro e w1 ⟨rfl, q, rfl⟩
    rw [Q1.out]
    go_wp2
    go_ret
    exact ⟨ret_bool hr.symm, below_dn (by go_grown) _⟩
  · have Q1 := Lib.hid q1
    clear q1
    cases q2 : eqI n2 f2 m2 g2
    · have hr := hide (eqP_no2 (n1 := n1) (m1 := m1) (f1 := f1) (g1 := g1) q2)
      have Q2 := Lib.hid q2
      clear q2
      go_enter Try.func16, Try.ntmps16
      go_wp2_with fail
      refine (eqInts a1 n1 c1 f1 d1 m1 e1 g1 _ (r1.top2 _ _) (s1.top2 _ _) hn1 hm1).mono ?_
      rintro e w1 ⟨rfl, q, rfl⟩
      rw [Q1.out]
      go_wp2_with fail
      refine (eqInts a2 n2 c2 f2 d2 m2 e2 g2 _ ((r2.top2 _ _).topq _) ((s2.top2 _ _).topq _) hn2 hm2).mono ?_
      rintro e w1 ⟨rfl, q, rfl⟩
      rw [Q2.out]
      go_wp2
      go_ret
      exact ⟨ret_bool hr.symm, below_dn (by go_grown) _⟩
    · have hr := hide (eqP_yes Q1.out q2)
      have Q2 := Lib.hid q2
      clear q2
      go_enter Try.func16, Try.ntmps16
      go_wp2_with fail
      refine (eqInts a1 n1 c1 f1 d1 m1 e1 g1 _ (r1.top2 _ _) (s1.top2 _ _) hn1 hm1).mono ?_
      rintro e w1 ⟨rfl, q, rfl⟩
      rw [Q1.out]
      go_wp2_with fail
      refine (eqInts a2 n2 c2 f2 d2 m2 e2 g2 _ ((r2.top2 _ _).topq _) ((s2.top2 _ _).topq _) hn2 hm2).mono ?_
      rintro e w1 ⟨rfl, q, rfl⟩
      rw [Q2.out]
      go_wp2
      go_ret
      exact ⟨ret_bool hr.symm, below_dn (by go_grown) _⟩
set_option maxHeartbeats 1000000 in
theorem markPath_any (a1 a2 : Option Addr) (n1 c1 n2 c2 lo hi : Nat) (f1 f2 : Nat → Int) (k0 : Int) (w : World) (h : OwP w lo hi a1 n1 f1 a2 n2 f2) (hhi : hi ≤ w.heap.size) (hk0 : 0 ≤ k0) (hk1 : k0 ≤ 1000000000) (hn1 : n1 ≤ 1000000000) (hn2 : n2 ≤ 1000000000) :
    Calls Try.prog 17 #[.agg #[.slice a1 n1 c1, .slice a2 n2 c2], .int .i64 k0] w fun e w' => e = .returned (.int .i64 (k0 + n1 + n2)) ∧ OwP w' lo hi a1 n1 (fun i => k0 + i) a2 n2 (fun i => k0 + n1 + i) ∧ Mid lo hi w w' := by
  obtain ⟨b1, b2, h1, h2, hne, o1, o2⟩ := h
  go_enter Try.func17, Try.ntmps17
  go_wp2_with fail
  refine (markInts a1 n1 c1 b1 f1 k0 _ (o1.alloc _) hk0 (by omega) (by omega)).mono ?_
  rintro e w1 ⟨rfl, p1, hg, h0⟩
  have o2 := (o2.alloc (.cells #[.slice a1 n1 c1, .slice a2 n2 c2] 26)).grown (Ne.symm hne) hg
  have hx : Bx w1 w.heap.size [.slice a1 n1 c1, .slice a2 n2 c2] := by
    by_cases hn0 : n1 = 0
    · rw [h0 hn0]; exact Bx.new w _ _
    · have := h1 (by omega)
      exact (Bx.new w [.slice a1 n1 c1, .slice a2 n2 c2] _).grown hg (by simp; omega)
  have hm1 : Mid lo hi w w1 := by
    by_cases hn0 : n1 = 0
    · rw [h0 hn0]; exact Mid.of_below (by go_grown)
    · have := h1 (by omega)
      exact (Mid.of_below (by go_grown)).trans (Mid.of_grown hg this.1 this.2)
  have c0 := hx.cell (i := 0) (by simp)
  have c1 := hx.cell (i := 1) (by simp)
  simp only [List.getElem_cons_zero, List.getElem_cons_succ] at c0 c1
  clear hx hg h0 o1
  go_wp2_with fail
  refine (markInts a2 n2 c2 b2 f2 (k0 + n1) _ o2 (by omega) (by omega) (by omega)).mono ?_
  rintro e w2 ⟨rfl, p2, hg, h0⟩
  have p1 := p1.grown hne hg
  have hm2 : Mid lo hi w w2 := by
    by_cases hn0 : n2 = 0
    · rw [h0 hn0]; exact hm1
    · have := h2 (by omega)
      exact hm1.trans (Mid.of_grown hg this.1 this.2)
  clear hg h0 hm1 o2 c0 c1
  have H := Lib.hid (show OwP w2 lo hi a1 n1 (fun i => k0 + i) a2 n2 (fun i => k0 + n1 + i) from ⟨b1, b2, h1, h2, hne, p1, p2⟩)
  clear p1 p2 h1 h2
  go_wp2
  go_ret
  exact ⟨rfl, H.out, hm2⟩
set_option maxHeartbeats 1000000 in
theorem heldPath_any (a1 a2 : Option Addr) (n1 c1 n2 c2 : Nat) (f1 f2 : Nat → Int) (k0 : Int) (w : World) (r1 : Rn w w.heap.size a1 n1 f1) (r2 : Rn w w.heap.size a2 n2 f2) (e1 : ∀ i, i < n1 → f1 i = k0 + i) (e2 : ∀ i, i < n2 → f2 i = k0 + n1 + i)
    (hk0 : 0 ≤ k0) (hk1 : k0 ≤ 1000000000) (hn1 : n1 ≤ 1000000000) (hn2 : n2 ≤ 1000000000) :
    Calls Try.prog 18 #[.agg #[.slice a1 n1 c1, .slice a2 n2 c2], .int .i64 k0] w fun e w' => e = .returned (.int .i64 (k0 + n1 + n2)) ∧ Below w.heap.size w w' := by
  have E1 := Lib.hid e1
  have E2 := Lib.hid e2
  clear e1 e2
  go_enter Try.func18, Try.ntmps18
  go_wp2_with fail
  refine (heldInts a1 n1 c1 _ f1 k0 _ (r1.top _) E1.out hk0 (by omega) (by omega)).mono ?_
  rintro e w1 ⟨rfl, rfl⟩
  go_wp2_with fail
  refine (heldInts a2 n2 c2 _ f2 (k0 + n1) _ (r2.top _) E2.out (by omega) (by omega) (by omega)).mono ?_
  rintro e w1 ⟨rfl, rfl⟩
  go_wp2
  go_ret
  exact ⟨rfl, by go_grown⟩
end Go.Proofs.Ythlegnghojbcaaa
