/-
  Contract of markPathS.
-/
import Derived.Test.YthlegnghojbcaaaPathSC
namespace Go.Proofs.Ythlegnghojbcaaa
open Go.RowKit
set_option linter.unusedVariables false

/-- A slice of paths that a call has made, of which only the lengths are known. -/
def PsAny (w : World) (T : TypeId) (lo hi g n : Nat) (D : Nat → PD) : Prop := ∃ E : Nat → PD, (∀ i, i < n → (E i).m1 = (D i).m1 ∧ (E i).m2 = (D i).m2) ∧ PsPart w T lo hi g n n E
theorem PsAny.at_ {w : World} {T : TypeId} {lo hi g n : Nat} {D : Nat → PD} (h : PsAny w T lo hi g n D) {i : Nat} (hi' : i < n) : ∃ a1 c1 a2 c2 b1 b2 f1 f2, w.cell? ⟨g, i * 2, none⟩ = some (.slice a1 (D i).m1 c1) ∧ w.cell? ⟨g, i * 2 + 1, none⟩ = some (.slice a2 (D i).m2 c2) ∧
    (lo ≤ b1 ∧ b1 < hi) ∧ (lo ≤ b2 ∧ b2 < hi) ∧ Ow w b1 a1 (D i).m1 f1 ∧ Ow w b2 a2 (D i).m2 f2 ∧ (∀ w' f', w.grownBy w' (some b1) → Ow w' b1 a1 (D i).m1 f' → PsAny w' T lo hi g n D) ∧ (∀ w' f', w.grownBy w' (some b2) → Ow w' b2 a2 (D i).m2 f' → PsAny w' T lo hi g n D) := by
  obtain ⟨E, hE, G, F, h1, h2, h3, h4, hr, h6⟩ := h
  obtain ⟨a1, c1, a2, c2, e1, e2, o1, o2⟩ := h6 i hi'
  have q1 := h3 (i * 2) (by omega)
  have q2 := h3 (i * 2 + 1) (by omega)
  obtain ⟨l1, l2⟩ := hE i hi'
  rw [l1] at e1 o1
  rw [l2] at e2 o2
  refine ⟨a1, c1, a2, c2, G (i * 2), G (i * 2 + 1), _, _, by rw [hr.cell (by omega), e1], by rw [hr.cell (by omega), e2], ⟨q1.1, q1.2.1⟩, ⟨q2.1, q2.2.1⟩, o1, o2, fun w' f' hg ho => ?_, fun w' f' hg ho => ?_⟩
  · refine ⟨fun j => if j = i then ⟨(D i).m1, f', (D i).m2, (E i).f2⟩ else E j, fun j hj => ?_, G, F, h1, h2, h3, h4, ?_, fun j hj => ?_⟩
    · by_cases e : j = i
      · subst e; simp
      · simp only [if_neg e]; exact hE j hj
    · obtain ⟨c, hc, hrr⟩ := hr
      exact ⟨c, (hg.block g (lt_of_block hc) (fun e => q1.2.2 (by injection e with e; exact e.symm))).trans hc, hrr⟩
    · by_cases e : j = i
      · subst e
        simp only [if_true]
        exact ⟨a1, c1, a2, c2, e1, e2, ho, o2.grown (fun e => by have := h4 (j * 2 + 1) (j * 2) (by omega) (by omega) e; omega) hg⟩
      · simp only [if_neg e]
        obtain ⟨d1, k1, d2, k2, z1, z2, p1, p2⟩ := h6 j hj
        exact ⟨d1, k1, d2, k2, z1, z2, p1.grown (fun x => by have := h4 (j * 2) (i * 2) (by omega) (by omega) x; omega) hg, p2.grown (fun x => by have := h4 (j * 2 + 1) (i * 2) (by omega) (by omega) x; omega) hg⟩
  · refine ⟨fun j => if j = i then ⟨(D i).m1, (E i).f1, (D i).m2, f'⟩ else E j, fun j hj => ?_, G, F, h1, h2, h3, h4, ?_, fun j hj => ?_⟩
    · by_cases e : j = i
      · subst e; simp
      · simp only [if_neg e]; exact hE j hj
    · obtain ⟨c, hc, hrr⟩ := hr
      exact ⟨c, (hg.block g (lt_of_block hc) (fun e => q2.2.2 (by injection e with e; exact e.symm))).trans hc, hrr⟩
    · by_cases e : j = i
      · subst e
        simp only [if_true]
        exact ⟨a1, c1, a2, c2, e1, e2, o1.grown (fun e => by have := h4 (j * 2) (j * 2 + 1) (by omega) (by omega) e; omega) hg, ho⟩
      · simp only [if_neg e]
        obtain ⟨d1, k1, d2, k2, z1, z2, p1, p2⟩ := h6 j hj
        exact ⟨d1, k1, d2, k2, z1, z2, p1.grown (fun x => by have := h4 (j * 2) (i * 2 + 1) (by omega) (by omega) x; omega) hg, p2.grown (fun x => by have := h4 (j * 2 + 1) (i * 2 + 1) (by omega) (by omega) x; omega) hg⟩
theorem PsAny.lt {w : World} {T : TypeId} {lo hi g n : Nat} {D : Nat → PD} (h : PsAny w T lo hi g n D) : g < w.heap.size := by
  obtain ⟨E, hE, G, F, h1, h2, h3, h4, ⟨c, hc, _⟩, h6⟩ := h
  exact lt_of_block hc
set_option maxHeartbeats 2000000 in
theorem markPathS_any (T : TypeId) (lo hi g n c : Nat) (D : Nat → PD) (k0 : Int) (w : World) (h : PsPart w T lo hi g n n D) (hhi : hi ≤ w.heap.size) (hk0 : 0 ≤ k0) (hk1 : k0 ≤ 1000000000) (ht : (n : Int) + tot D n ≤ 1048576) :
    Calls Try.prog 34 #[.slice (some ⟨g, 0, none⟩) n c, .int .i64 k0] w fun e w' => e = .returned (.int .i64 (k0 + tot D n)) ∧ Mid lo hi w w' := by
  have hA : PsAny w T lo hi g n D := ⟨D, fun i _ => ⟨rfl, rfl⟩, h⟩
  have TT : ∀ j, j ≤ n → 0 ≤ tot D j ∧ tot D j ≤ tot D n := fun j hj => ⟨Nat.zero_le _, tot_mono D hj⟩
  clear h
  go_enter Try.func34, Try.ntmps34
  go_wp2
  go_loopw [1, 5] (fun v i wr => ∃ (j : Nat) (u : Int), j ≤ n ∧ i = .int .i64 j ∧ v = .int .i64 u ∧ Hid (u = k0 + tot D j) ∧ (k0 ≤ u ∧ u ≤ 1010000000) ∧ PsAny wr T lo hi g n D ∧ Mid lo hi w wr) (fun _ i _ => n - (intOf i).toNat)
  case atStart => exact ⟨0, k0, Nat.zero_le _, rfl, rfl, by show k0 = k0 + tot D 0; simp [tot], by omega, hA, Mid.refl _ _ _⟩
  case round =>
    clear hA
    obtain ⟨j, u, hj, rfl, rfl, hU, ⟨hu1, hu2⟩, hA, hm⟩ := hrel
    by_cases hlt : j < n
    · have hs := hm.size
      obtain ⟨a1, c1, a2, c2, b1, b2, f1, f2, x0, x1, hb1, hb2, o1, o2, k1, k2⟩ := hA.at_ hlt
      have t1 := TT j (by omega)
      have t2 := TT (j + 1) (by omega)
      have t3 : tot D (j + 1) = tot D j + (D j).m1 + (D j).m2 := by simp [tot]
      have hU1 := hU.out
      have j0 : (0 : Int) ≤ (j : Int) := by omega
      have j1 : (j : Int) < (n : Int) := by omega
      have K1 := Lib.hid k1
      have n1 : (D j).m1 ≤ 1048576 := by omega
      have n2 : (D j).m2 ≤ 1048576 := by omega
      have n3 : u + (D j).m1 + (D j).m2 ≤ 1010000000 := by omega
      have hU3 : Hid (u + (D j).m1 + (D j).m2 = k0 + tot D (j + 1)) := by show _ = _; omega
      clear k1 k2 hA x1 o2 t1 t2 t3 hU1
      go_wp2_with fail
      refine (markInts a1 _ c1 b1 f1 u _ o1 (by omega) (by omega) (by omega)).mono ?_
      rintro e w1 ⟨rfl, p1, hg, h0⟩
      have hA := K1.out w1 _ hg p1
      have hm := hm.trans (Mid.of_grown hg hb1.1 hb1.2)
      have hs := hm.size
      obtain ⟨a1', c1', a2', c2', b1', b2', f1', f2', x0', x1', hb1', hb2', o1', o2', k1', k2'⟩ := hA.at_ hlt
      have K2 := Lib.hid k2'
      clear k1' k2' hA x0' o1' p1 hg h0 o1 x0 K1
      go_wp2_with fail
      refine (markInts a2' _ c2' b2' f2' (u + (D j).m1) _ o2' (by omega) (by omega) (by omega)).mono ?_
      rintro e w2 ⟨rfl, p2, hg, h0⟩
      have hA := K2.out w2 _ hg p2
      have hm := hm.trans (Mid.of_grown hg hb2'.1 hb2'.2)
      clear p2 hg h0 o2' x1' K2
      go_wp2
      go_roundw
      case rel => exact ⟨j + 1, _, by omega, by go_num, rfl, hU3, by omega, hA, hm⟩
      case measure => simp [intOf]; omega
    · obtain rfl : j = n := by omega
      go_wp2
      go_ret
      exact ⟨ret_int hU.out, hm⟩
end Go.Proofs.Ythlegnghojbcaaa
