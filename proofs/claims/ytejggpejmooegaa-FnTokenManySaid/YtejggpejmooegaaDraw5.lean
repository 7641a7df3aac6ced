/-
  Contracts of the draws of tokens.
-/
import Derived.Test.YtejggpejmooegaaDraw3
namespace Go.Proofs.Ytejggpejmooegaa
open Go.RowKit
set_option linter.unusedVariables false

def TokPost (B : Nat) (w : World) (R q0 : Nat) (e : Ending) (w' : World) : Prop := ∃ (a b o : Int) (q : Nat), e = .returned (.agg #[.int .i64 a, .int .i64 b, .int .i64 o]) ∧ (-1 ≤ a ∧ a ≤ 15 ∧ -1 ≤ b ∧ b ≤ 15 ∧ -1 ≤ o ∧ o ≤ 15) ∧ q ≤ q0 ∧ Rd B w' R q ∧ w.grownBy w' (some R)
theorem tdiv_at4 (v : Int) (h : 0 ≤ v) : ∃ d : Int, Int.tdiv v 4 = d ∧ 0 ≤ d ∧ d * 4 ≤ v := by
  refine ⟨_, rfl, ?_, ?_⟩
  · rw [Int.tdiv_eq_ediv_of_nonneg h]; omega
  · rw [Int.tdiv_eq_ediv_of_nonneg h]; omega
theorem rd_set3 {B R p C : Nat} {w : World} (h : Rd B w R p) (h1 : R ≠ C) (h2 : B ≤ C) (x y z : Value) : Rd B (((w.setCell ⟨C, 0, none⟩ x).setCell ⟨C, 1, none⟩ y).setCell ⟨C, 2, none⟩ z) R p :=
  ((h.other (a := ⟨C, 0, none⟩) h1 h2 x).other (a := ⟨C, 1, none⟩) h1 h2 y).other (a := ⟨C, 2, none⟩) h1 h2 z
theorem gb_set3 {R C : Nat} {a b : World} (h : a.grownBy b (some R)) (h2 : a.heap.size ≤ C) (x y z : Value) : a.grownBy (((b.setCell ⟨C, 0, none⟩ x).setCell ⟨C, 1, none⟩ y).setCell ⟨C, 2, none⟩ z) (some R) :=
  gb_setCell (gb_setCell (gb_setCell h (q := ⟨C, 0, none⟩) (.inr h2) x) (q := ⟨C, 1, none⟩) (.inr h2) y) (q := ⟨C, 2, none⟩) (.inr h2) z
set_option maxHeartbeats 2000000 in
theorem token_any (B R p : Nat) (w : World) (h : Rd B w R p) (hp : p ≤ 50000) :
    Calls Try.prog 56 #[.pointer (some ⟨R, 0, none⟩)] w (TokPost B w R (p + 10)) := by
  have hlt := h.lt
  have hbase := h.base
  go_enter Try.func56, Try.ntmps56
  go_wp2_with fail
  refine (pick_any B R p 16 _ (h.alloc _) (by omega) (by omega) (by omega)).mono ?_
  rintro e w1 ⟨v, rfl, hv0, hv1, hR, hg⟩
  have hX := (Bx.new w [.int .i64 0, .int .i64 0, .int .i64 0] 27).grown hg (by simp; omega)
  have hG := gb_trans (gb_alloc (gb_refl w (some R)) _) hg
  clear hg h
  by_cases hv : v = 0
  · have hd : (v == 0) = true := beq_iff_eq.2 hv
    clear hv hv0 hv1
    go_wp2_with fail
    refine (pick_any B R _ 15 _ hR (by omega) (by omega) (by omega)).mono ?_
    rintro e w2 ⟨v, rfl, hv0, hv1, hR, hg⟩
    have hX := hX.grown hg (by simp; omega)
    have hG := gb_trans hG hg
    clear hg
    obtain ⟨x, rfl⟩ : ∃ x, x = v := ⟨_, rfl⟩
    have hx : 0 ≤ x ∧ x ≤ 14 := by omega
    clear hv0 hv1
    go_wp2_with fail
    refine (pick_any B R _ 15 _ hR (by omega) (by omega) (by omega)).mono ?_
    rintro e w2 ⟨v, rfl, hv0, hv1, hR, hg⟩
    have hX := hX.grown hg (by simp; omega)
    have hG := gb_trans hG hg
    clear hg
    obtain ⟨y, rfl⟩ : ∃ x, x = v := ⟨_, rfl⟩
    have hy : 0 ≤ y ∧ y ≤ 14 := by omega
    clear hv0 hv1
    go_wp2_with fail
    refine (pick_any B R _ 5 _ hR (by omega) (by omega) (by omega)).mono ?_
    rintro e w2 ⟨v, rfl, hv0, hv1, hR, hg⟩
    have hX := hX.grown hg (by simp; omega)
    have hG := gb_trans hG hg
    clear hg
    obtain ⟨⟨c0, c1, c2⟩, f0, f1, f2⟩ := hX.three
    have g0 : ∀ u, (w2.setCell ⟨w.heap.size, 0, none⟩ u).cell? ⟨w.heap.size, 0, none⟩ = some u := fun u => (hX.set 0 u).cell (i := 0) (by simp)
    have g1 : ∀ u t, ((w2.setCell ⟨w.heap.size, 0, none⟩ u).setCell ⟨w.heap.size, 1, none⟩ t).cell? ⟨w.heap.size, 1, none⟩ = some t := fun u t => ((hX.set 0 u).set 1 t).cell (i := 1) (by simp)
    have g2 : ∀ u t r, (((w2.setCell ⟨w.heap.size, 0, none⟩ u).setCell ⟨w.heap.size, 1, none⟩ t).setCell ⟨w.heap.size, 2, none⟩ r).cell? ⟨w.heap.size, 2, none⟩ = some r := fun u t r => (((hX.set 0 u).set 1 t).set 2 r).cell (i := 2) (by simp)
    go_wp2
    refine bodyPost_ret (by simp [results, Try.results56, go_sem, *]; rfl) rfl ?_
    exact ⟨_, _, _, _, rfl, by omega, by omega, rd_set3 hR (by omega) (by omega) _ _ _, gb_set3 hG (Nat.le_refl _) _ _ _⟩
  · have hd : (v == 0) = false := beq_eq_false_iff_ne.2 hv
    clear hv hv0 hv1
    go_wp2_with fail
    refine (pick_any B R _ 5 _ hR (by omega) (by omega) (by omega)).mono ?_
    rintro e w2 ⟨v, rfl, hv0, hv1, hR, hg⟩
    have hX := hX.grown hg (by simp; omega)
    have hG := gb_trans hG hg
    clear hg
    obtain ⟨x, rfl⟩ : ∃ x, x = v := ⟨_, rfl⟩
    have hx : 0 ≤ x ∧ x ≤ 14 := by omega
    clear hv0 hv1
    go_wp2_with fail
    refine (pick_any B R _ 5 _ hR (by omega) (by omega) (by omega)).mono ?_
    rintro e w2 ⟨v, rfl, hv0, hv1, hR, hg⟩
    have hX := hX.grown hg (by simp; omega)
    have hG := gb_trans hG hg
    clear hg
    obtain ⟨y, rfl⟩ : ∃ x, x = v := ⟨_, rfl⟩
    have hy : 0 ≤ y ∧ y ≤ 14 := by omega
    clear hv0 hv1
    go_wp2_with fail
    refine (pick_any B R _ 6 _ hR (by omega) (by omega) (by omega)).mono ?_
    rintro e w2 ⟨v, rfl, hv0, hv1, hR, hg⟩
    have hX := hX.grown hg (by simp; omega)
    have hG := gb_trans hG hg
    clear hg
    obtain ⟨d, hdv, hd0, hd1⟩ := tdiv_at4 v hv0
    have hdd : d = 0 ∨ d = 1 := by omega
    clear hv0 hv1 hd0 hd1
    obtain ⟨z, rfl⟩ : ∃ x, x = v := ⟨_, rfl⟩
    go_wp2_with fail
    refine (pick_any B R _ 2 _ hR (by omega) (by omega) (by omega)).mono ?_
    rintro e w2 ⟨v, rfl, hv0, hv1, hR, hg⟩
    have hX := hX.grown hg (by simp; omega)
    have hG := gb_trans hG hg
    clear hg
    have hvv : v = 0 ∨ v = 1 := by omega
    clear hv0 hv1
    rcases hdd with rfl | rfl <;> rcases hvv with rfl | rfl
    all_goals
      obtain ⟨⟨c0, c1, c2⟩, f0, f1, f2⟩ := hX.three
      have g0 : ∀ u, (w2.setCell ⟨w.heap.size, 0, none⟩ u).cell? ⟨w.heap.size, 0, none⟩ = some u := fun u => (hX.set 0 u).cell (i := 0) (by simp)
      have g1 : ∀ u t, ((w2.setCell ⟨w.heap.size, 0, none⟩ u).setCell ⟨w.heap.size, 1, none⟩ t).cell? ⟨w.heap.size, 1, none⟩ = some t := fun u t => ((hX.set 0 u).set 1 t).cell (i := 1) (by simp)
      have g2 : ∀ u t r, (((w2.setCell ⟨w.heap.size, 0, none⟩ u).setCell ⟨w.heap.size, 1, none⟩ t).setCell ⟨w.heap.size, 2, none⟩ r).cell? ⟨w.heap.size, 2, none⟩ = some r := fun u t r => (((hX.set 0 u).set 1 t).set 2 r).cell (i := 2) (by simp)
      go_wp2
      refine bodyPost_ret (by simp [results, Try.results56, go_sem, *]; rfl) rfl ?_
      exact ⟨_, _, _, _, rfl, by omega, by omega, rd_set3 hR (by omega) (by omega) _ _ _, gb_set3 hG (Nat.le_refl _) _ _ _⟩
end Go.Proofs.Ytejggpejmooegaa
