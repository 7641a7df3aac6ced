/-
  Contract of the reference's TokenMany.
-/
import Derived.Test.YtejggpejmooegaaTokMR
import Derived.Test.YtejggpejmooegaaTok8
import Derived.Deep.RegionWith
import Derived.Deep.RegionHeld3
namespace Go.Proofs.Ytejggpejmooegaa
open Go.RowKit Go.Deep
set_option linter.unusedVariables false

theorem below_drewM {B : Nat} {w W : World} (h : Below B w W) : Below B w W.drew := ⟨h.os, h.tape, h.output, h.size, h.block⟩
theorem undrewM {w w' : World} (h : Below w.drew.heap.size w.drew w') : Below w.heap.size w w' := ⟨h.os, h.tape, h.output, h.size, h.block⟩
set_option maxRecDepth 100000 in
set_option maxHeartbeats 4000000 in
theorem sMany0 (A B n : Nat) (w : World) (hA : A + B ≤ 12) (hn : n ≤ 30) (v : Nat) (hv : Hid (v = many n ((A : Int), (B : Int), 0))) :
    Calls Try.prog 33 #[.agg #[.int .i64 (A : Int), .int .i64 (B : Int), .int .i64 0], .int .i64 (n : Int)] w fun e w' => e = .returned (.int .i64 (v : Int)) ∧ Below w.heap.size w w' := by
  have hT := Lib.hid (show tokV (A : Int) (B : Int) 0 = true by rw [tokV_iff]; omega)
  have hI := Lib.hid (show (0 : Int) ≤ (n : Int) ∧ (n : Int) ≤ 30 by omega)
  obtain ⟨tot, htot⟩ : ∃ tot, A + B = tot := ⟨_, rfl⟩
  have z1 : IntKind.i64.wrap ((A : Int) + (B : Int)) = (tot : Int) := by rw [IntWalk.i64_in _ (by omega)]; omega
  have z2 : IntKind.i64.wrap (tot : Int) = (tot : Int) := IntWalk.i64_in _ (by omega)
  have ht1 : A ≤ tot := by omega
  have ht2 : tot ≤ 12 := by omega
  have a0 : (0 : Int) ≤ (A : Int) := by omega
  have a1 : (A : Int) < (tot : Int) + 1 := by omega
  have hB : (B : Int) = (tot : Int) - (A : Int) := by omega
  rw [show ((A : Int), (B : Int), (0 : Int)) = ((A : Int), (tot : Int) - (A : Int), 0) by rw [hB]] at hv
  clear htot hB
  have bx0 := Bx.new w [.int .i64 (A : Int), .int .i64 (B : Int), .int .i64 0] 27
  go_enter Try.func33, Try.ntmps33
  by_cases hp : n % 2 = 0
  · have p1 : (n : Int) % 2 = 0 := by omega
    have p2 : Int.tmod (n : Int) 2 = 0 := by rw [Int.tmod_eq_emod_of_nonneg (by omega)]; exact p1
    have hvv : Hid (v = evW tot (n / 2) A) := by
      show v = _
      rw [hv.out, ← many_even tot (n / 2) A ht1]; congr 1; omega
    have HM := Lib.hid (fun W => tMany tot n (n / 2) W ht2 hn (by omega))
    clear hv hp
    go_wp2_with fail
    refine (sTokVv _ _ _ _ hT.out _).mono ?_
    rintro e w1 ⟨rfl, hn1⟩
    have bt := Bx.call bx0 hn1
    have hb1 : Below w.heap.size w w1 := belowT (by go_grown) (Nat.le_refl _) hn1
    obtain ⟨⟨t0, t1, t2⟩, tf0, tf1, tf2⟩ := bt.three
    have hl1 := bt.lt
    have BT := Lib.hid bt
    have HB := Lib.hid hb1
    clear hn1 bx0 bt hb1
    go_wp2_with fail
    refine (sIn_yes _ _ _ _ hI.out).mono ?_
    rintro e w2 ⟨rfl, rfl⟩
    go_wp2_with fail
    go_region_with (first
      | (go_at_call 65; refine (HM.out _).mono ?_; rintro e w3 ⟨g, rfl, hg3, hR3, hn3⟩; have hn3 : Below w1.heap.size w1 w3 := undrewM hn3; have cA := World.rowIs.cell hR3 (show A < tot + 1 by omega); have bt3 : Bx w3 w.heap.size [.int .i64 (A : Int), .int .i64 (B : Int), .int .i64 0] := Bx.call BT.out hn3; obtain ⟨⟨x0, x1, x2⟩, xf0, xf1, xf2⟩ := bt3.three; have HB3 := Lib.hid (belowT (w2 := w3) HB.out (by omega) hn3); clear hR3 hn3 bt3))
    all_goals
      go_wp2
      go_ret
      exact ⟨by rw [hvv.out]; rfl, HB3.out⟩
  · have p1 : (n : Int) % 2 = 1 := by omega
    have p2 : Int.tmod (n : Int) 2 = 1 := by rw [Int.tmod_eq_emod_of_nonneg (by omega)]; exact p1
    have hvv : Hid (v = odW tot (n / 2) A) := by
      show v = _
      rw [hv.out, ← many_odd tot (n / 2) A ht1]; congr 1; omega
    have HM := Lib.hid (fun W => tOdd tot n (n / 2) W ht2 hn (by omega))
    clear hv hp
    go_wp2_with fail
    refine (sTokVv _ _ _ _ hT.out _).mono ?_
    rintro e w1 ⟨rfl, hn1⟩
    have bt := Bx.call bx0 hn1
    have hb1 : Below w.heap.size w w1 := belowT (by go_grown) (Nat.le_refl _) hn1
    obtain ⟨⟨t0, t1, t2⟩, tf0, tf1, tf2⟩ := bt.three
    have hl1 := bt.lt
    have BT := Lib.hid bt
    have HB := Lib.hid hb1
    clear hn1 bx0 bt hb1
    go_wp2_with fail
    refine (sIn_yes _ _ _ _ hI.out).mono ?_
    rintro e w2 ⟨rfl, rfl⟩
    go_wp2_with fail
    go_region_with (first
      | (go_at_call 66; refine (HM.out _).mono ?_; rintro e w3 ⟨g, rfl, hg3, hR3, hn3⟩; have hn3 : Below w1.heap.size w1 w3 := undrewM hn3; have cA := World.rowIs.cell hR3 (show A < tot + 1 by omega); have bt3 : Bx w3 w.heap.size [.int .i64 (A : Int), .int .i64 (B : Int), .int .i64 0] := Bx.call BT.out hn3; obtain ⟨⟨x0, x1, x2⟩, xf0, xf1, xf2⟩ := bt3.three; have HB3 := Lib.hid (belowT (w2 := w3) HB.out (by omega) hn3); clear hR3 hn3 bt3))
    all_goals
      go_wp2
      go_ret
      exact ⟨by rw [hvv.out]; rfl, HB3.out⟩
def okM (a b o n : Int) : Prop := tokV a b o = true ∧ 0 ≤ n ∧ n ≤ 30
theorem SM_call {w W W' : World} {x y : Value} (h : W.cell? ⟨w.heap.size, 0, none⟩ = some x ∧ W.cell? ⟨w.heap.size, 1, none⟩ = some y ∧ (Below w.heap.size w W ∧ w.heap.size < W.heap.size)) (hn : Below W.heap.size W W') :
    W'.cell? ⟨w.heap.size, 0, none⟩ = some x ∧ W'.cell? ⟨w.heap.size, 1, none⟩ = some y ∧ (Below w.heap.size w W' ∧ w.heap.size < W'.heap.size) :=
  ⟨(World.cell?_of_block (a := ⟨w.heap.size, 0, none⟩) (hn.block _ h.2.2.2)).trans h.1, (World.cell?_of_block (a := ⟨w.heap.size, 1, none⟩) (hn.block _ h.2.2.2)).trans h.2.1, belowT h.2.2.1 (by have := h.2.2.1.size; omega) hn, Nat.lt_of_lt_of_le h.2.2.2 hn.size⟩
theorem SM_out {w W : World} {x y : Value} (h : W.cell? ⟨w.heap.size, 0, none⟩ = some x ∧ W.cell? ⟨w.heap.size, 1, none⟩ = some y ∧ (Below w.heap.size w W ∧ w.heap.size < W.heap.size)) : Below w.heap.size w W := h.2.2.1
set_option maxRecDepth 100000 in
set_option maxHeartbeats 4000000 in
theorem sManyO (A B N : Nat) (o : Int) (w : World) (hA : A + B + 1 ≤ 12) (ho : o = 1 ∨ o = 2) (hn : N ≤ 30) (v : Nat) (hv : Hid (v = many N ((A : Int), (B : Int), o))) :
    Calls Try.prog 33 #[.agg #[.int .i64 (A : Int), .int .i64 (B : Int), .int .i64 o], .int .i64 (N : Int)] w fun e w' => e = .returned (.int .i64 (v : Int)) ∧ Below w.heap.size w w' := by
  have hT := Lib.hid (show tokV (A : Int) (B : Int) o = true by rw [tokV_iff]; omega)
  have hI := Lib.hid (show (0 : Int) ≤ (N : Int) ∧ (N : Int) ≤ 30 by omega)
  have z1 : IntKind.i64.wrap ((A : Int) + (B : Int)) = (A : Int) + (B : Int) := IntWalk.i64_in _ (by omega)
  have z2 : IntKind.i64.wrap ((A : Int) + (B : Int) + 1) = (A : Int) + (B : Int) + 1 := IntWalk.i64_in _ (by omega)
  have mo : min (1 : Int) o = 1 := by omega
  have do_ : decide ((0 : Int) < o) = true := decide_eq_true (by omega)
  have do1 : (1 : Int) ≤ o := by omega
  have bx0 := Bx.new w [.int .i64 (A : Int), .int .i64 (B : Int), .int .i64 o] 27
  by_cases hN : N = 0
  · have dn : ((N : Int) == 0) = true := beq_iff_eq.2 (by omega)
    have dn2 : (N == 0) = true := beq_iff_eq.2 hN
    have hw : Hid (v = 1) := by show v = 1; rw [hv.out, hN]; rfl
    clear hv hN ho
    go_enter Try.func33, Try.ntmps33
    go_wp2_with fail
    refine (sTokVv _ _ _ _ hT.out _).mono ?_
    rintro e w1 ⟨rfl, hn1⟩
    have bt := Bx.call bx0 hn1
    have HB : Hid (Below w.heap.size w w1) := belowT (by go_grown) (Nat.le_refl _) hn1
    obtain ⟨⟨t0, t1, t2⟩, tf0, tf1, tf2⟩ := bt.three
    clear hn1 bx0 bt
    go_wp2_with fail
    refine (sIn_yes _ _ _ _ hI.out).mono ?_
    rintro e w2 ⟨rfl, rfl⟩
    go_wp2
    go_ret
    exact ⟨by rw [hw.out]; rfl, HB.out⟩
  have dn : ((N : Int) == 0) = false := beq_eq_false_iff_ne.2 (by omega)
  have dn2 : (N == 0) = false := beq_eq_false_iff_ne.2 hN
  obtain ⟨M, hM⟩ : ∃ M, N - 1 = M := ⟨_, rfl⟩
  obtain ⟨v1, hv1⟩ : ∃ y, many M ((A : Int) + 1, (B : Int), 0) = y := ⟨_, rfl⟩
  obtain ⟨v2, hv2⟩ : ∃ y, many M ((A : Int), (B : Int) + 1, 0) = y := ⟨_, rfl⟩
  have hb1 : v1 ≤ 2 ^ M := by rw [← hv1]; exact many_le M _ (show tokV ((A : Int) + 1) (B : Int) 0 = true by rw [tokV_iff]; omega)
  have hb2 : v2 ≤ 2 ^ M := by rw [← hv2]; exact many_le M _ (show tokV (A : Int) ((B : Int) + 1) 0 = true by rw [tokV_iff]; omega)
  have hp : 2 ^ M ≤ 2 ^ 30 := Nat.pow_le_pow_right (by omega) (by omega)
  have hc1 : v1 ≤ 1073741824 := Nat.le_trans hb1 hp
  have hc2 : v2 ≤ 1073741824 := Nat.le_trans hb2 hp
  have hw : Hid (v = v1 + v2) := by
    show v = _
    rw [hv.out, show N = M + 1 by omega, many_out ho, hv1, hv2]
  have H1 := Lib.hid (fun W => sMany0 (A + 1) B M W (by omega) (by omega) v1 (by show v1 = _; rw [← hv1]; congr 1))
  have H2 := Lib.hid (fun W => sMany0 A (B + 1) M W (by omega) (by omega) v2 (by show v2 = _; rw [← hv2]; congr 1))
  have H1 : Hid (∀ W, Calls Try.prog 33 #[.agg #[.int .i64 ((A : Int) + 1), .int .i64 (B : Int), .int .i64 0], .int .i64 (M : Int)] W fun e w' => e = .returned (.int .i64 (v1 : Int)) ∧ Below W.heap.size W w') := fun W => H1.out W
  have H2 : Hid (∀ W, Calls Try.prog 33 #[.agg #[.int .i64 (A : Int), .int .i64 ((B : Int) + 1), .int .i64 0], .int .i64 (M : Int)] W fun e w' => e = .returned (.int .i64 (v2 : Int)) ∧ Below W.heap.size W w') := fun W => H2.out W
  have z3 : IntKind.i64.wrap ((A : Int) + 1) = (A : Int) + 1 := IntWalk.i64_in _ (by omega)
  have z4 : IntKind.i64.wrap ((B : Int) + 1) = (B : Int) + 1 := IntWalk.i64_in _ (by omega)
  have z5 : IntKind.i64.wrap ((N : Int) - 1) = (M : Int) := by rw [IntWalk.i64_in _ (by omega)]; omega
  have z6 : IntKind.i64.wrap ((v1 : Int) + (v2 : Int)) = (v1 : Int) + (v2 : Int) := IntWalk.i64_in _ (by omega)
  clear hv hN ho hM hv1 hv2 hb1 hb2 hp
  go_enter Try.func33, Try.ntmps33
  go_wp2_with fail
  refine (sTokVv _ _ _ _ hT.out _).mono ?_
  rintro e w1 ⟨rfl, hn1⟩
  have bt := Bx.call bx0 hn1
  have hB : Below w.heap.size w w1 := belowT (by go_grown) (Nat.le_refl _) hn1
  obtain ⟨⟨t0, t1, t2⟩, tf0, tf1, tf2⟩ := bt.three
  have hl1 := bt.lt
  clear hn1 bx0 bt
  go_wp2_with fail
  refine (sIn_yes _ _ _ _ hI.out).mono ?_
  rintro e w2 ⟨rfl, rfl⟩
  go_wp2_with fail
  go_region_held3 (fun W => W.cell? ⟨w.heap.size, 0, none⟩ = some (.int .i64 (A : Int)) ∧ W.cell? ⟨w.heap.size, 1, none⟩ = some (.int .i64 (B : Int)) ∧ (Below w.heap.size w W ∧ w.heap.size < W.heap.size)) (first | exact ⟨t0, t1, below_drewM hB, hl1⟩ | exact SM_call (by assumption) (by assumption) | assumption)
    (first
      | (go_at_call 33; with_reducible refine (H1.out _).mono ?_; rintro e w3 ⟨rfl, hn3⟩)
      | (go_at_call 33; with_reducible refine (H2.out _).mono ?_; rintro e w3 ⟨rfl, hn3⟩))
  all_goals
    rename_i hh
    have HB := Lib.hid (SM_out hh)
    clear hh
    go_wp2
    go_ret
    exact ⟨ret_int (by have := hw.out; omega), HB.out⟩
/-- TokenMany of the reference. -/
def ManyV (a b o n v : Int) : Prop := (okM a b o n ∧ v = (many n.toNat (a, b, o) : Int)) ∨ (¬ okM a b o n ∧ v = -1)
set_option maxRecDepth 100000 in
set_option maxHeartbeats 4000000 in
theorem sMany (a b o n : Int) (w : World) (v : Int) (hv : Hid (ManyV a b o n v)) :
    Calls Try.prog 33 #[.agg #[.int .i64 a, .int .i64 b, .int .i64 o], .int .i64 n] w fun e w' => e = .returned (.int .i64 v) ∧ Below w.heap.size w w' := by
  have bx0 := Bx.new w [.int .i64 a, .int .i64 b, .int .i64 o] 27
  cases ht : tokV a b o
  · have hT := Lib.hid ht
    obtain rfl : v = -1 := by
      rcases hv.out with h | h
      · have := h.1.1; rw [ht] at this; cases this
      · exact h.2
    clear ht hv
    go_enter Try.func33, Try.ntmps33
    go_wp2_with fail
    refine (sTokVv _ _ _ _ hT.out _).mono ?_
    rintro e w1 ⟨rfl, hn1⟩
    have HB : Hid (Below w.heap.size w w1) := belowT (by go_grown) (Nat.le_refl _) hn1
    clear hn1 bx0
    go_wp2
    go_ret
    exact ⟨rfl, HB.out⟩
  by_cases hn : 0 ≤ n ∧ n ≤ 30
  rotate_left
  · have hT := Lib.hid ht
    have hI := Lib.hid hn
    obtain rfl : v = -1 := by
      rcases hv.out with h | h
      · exact absurd h.1.2 hn
      · exact h.2
    clear ht hv hn
    go_enter Try.func33, Try.ntmps33
    go_wp2_with fail
    refine (sTokVv _ _ _ _ hT.out _).mono ?_
    rintro e w1 ⟨rfl, hn1⟩
    have HB : Hid (Below w.heap.size w w1) := belowT (by go_grown) (Nat.le_refl _) hn1
    clear hn1 bx0
    go_wp2_with fail
    refine (sIn_no _ _ _ _ hI.out).mono ?_
    rintro e w2 ⟨rfl, rfl⟩
    go_wp2
    go_ret
    exact ⟨rfl, HB.out⟩
  have hvv : v = (many n.toNat (a, b, o) : Int) := by
    rcases hv.out with h | h
    · exact h.2
    · exact absurd ⟨ht, hn⟩ h.1
  subst hvv
  have h := tokV_iff.1 ht
  clear hv bx0 ht
  obtain ⟨A, rfl⟩ := Int.eq_ofNat_of_zero_le h.1
  obtain ⟨B, rfl⟩ := Int.eq_ofNat_of_zero_le h.2.2.1
  obtain ⟨N, rfl⟩ := Int.eq_ofNat_of_zero_le hn.1
  by_cases h0 : o = 0
  · subst h0
    exact sMany0 A B N w (by omega) (by omega) _ rfl
  · exact sManyO A B N o w (by omega) (by omega) (by omega) _ rfl
end Go.Proofs.Ytejggpejmooegaa
