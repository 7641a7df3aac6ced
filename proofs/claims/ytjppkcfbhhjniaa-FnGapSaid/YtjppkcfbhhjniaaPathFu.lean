/-
  Plain: a fitted path is a path, and clashes with none.
-/
import Derived.Test.YtjppkcfbhhjniaaPathFtP
namespace Go.Proofs.Ytjppkcfbhhjniaa
open Go.RowKit

theorem fit_valid {D : Nat → PD} {m r : Nat} {f : Nat → Int} {frm : Int} (hr : 1 ≤ r ∧ r ≤ 5) (hf : ∀ k, k < r → 1 ≤ f k ∧ f k ≤ 100) (h0 : 0 ≤ frm) (hok : okTo D m f frm r) :
    pathV r ⟨r, inT D m f frm, r, fun k => rdy D m f frm (k + 1)⟩ = true := by
  refine pathV_iff.2 ⟨by omega, by omega, rfl, rfl, fun j hj => ?_⟩
  rw [Int.toNat_natCast] at hj
  have hb := inT_bd (hok j hj)
  have h1 := hf j hj
  refine ⟨?_, ?_, ?_⟩
  · cases j with
    | zero =>
      have e : rdy D m f frm 0 = frm := rfl
      rw [e] at hb
      show (0 : Int) ≤ inT D m f frm 0
      omega
    | succ j => exact hb.1
  · show inT D m f frm j < rdy D m f frm (j + 1)
    rw [rdy_succ]; omega
  · show rdy D m f frm (j + 1) ≤ 2000
    rw [rdy_succ]; exact hb.2
theorem fit_apart {D : Nat → PD} {m r : Nat} {f : Nat → Int} {frm : Int} (hok : okTo D m f frm r) {i k : Nat} (hi : i < m) (hk : k < r) :
    clash (D i) ⟨r, inT D m f frm, r, fun k => rdy D m f frm (k + 1)⟩ k = false := by
  rcases inT_is D m f frm k with ⟨_, _, _, hn, _⟩ | ⟨h, _⟩
  · cases hc : clash (D i) ⟨r, inT D m f frm, r, fun k => rdy D m f frm (k + 1)⟩ k
    · rfl
    · unfold clash at hc
      rw [Bool.and_eq_true, decide_eq_true_eq, decide_eq_true_eq] at hc
      exact absurd ⟨i, hi, hc.2, by have := hc.1; simp only [rdy_succ] at this; exact this⟩ hn
  · rw [hok k hk] at h; cases h
theorem fit_clash {D : Nat → PD} {m r : Nat} {f : Nat → Int} {frm : Int} (hok : okTo D m f frm r) {i : Nat} (hi : i < m) : clashL r (D i) ⟨r, inT D m f frm, r, fun k => rdy D m f frm (k + 1)⟩ = [] := by
  have key : ∀ k, k ≤ r → clashT (D i) ⟨r, inT D m f frm, r, fun k => rdy D m f frm (k + 1)⟩ k = [] := by
    intro k
    induction k with
    | zero => intro _; rfl
    | succ k ih => intro hk; rw [clashT_no (fit_apart hok hi (by omega))]; exact ih (by omega)
  unfold clashL
  split
  · rw [Int.toNat_natCast]; exact key r (Nat.le_refl _)
  · rfl
/-- The paths with one more behind all others. -/
def addD (D : Nat → PD) (m : Nat) (p : PD) : Nat → PD := fun i => if i = m then p else D i
/-- With the fitted path they are paths of the line still, where there is room. -/
theorem fit_first {D : Nat → PD} {m r : Nat} {f : Nat → Int} {frm : Int} (hv : firstV r D m) (hr : 1 ≤ r ∧ r ≤ 5) (hf : ∀ k, k < r → 1 ≤ f k ∧ f k ≤ 100) (h0 : 0 ≤ frm) (hok : okTo D m f frm r) :
    firstV r (addD D m ⟨r, inT D m f frm, r, fun k => rdy D m f frm (k + 1)⟩) (m + 1) := by
  intro i hi
  by_cases e : i = m
  · subst e
    simp only [addD, if_true]
    refine ⟨fit_valid hr hf h0 hok, fun j hj => ?_⟩
    rw [if_neg (by omega)]
    exact fit_clash hok hj
  · obtain ⟨h1, h2⟩ := hv i (by omega)
    simp only [addD, if_neg e]
    exact ⟨h1, fun j hj => by rw [if_neg (by omega)]; exact h2 j hj⟩
end Go.Proofs.Ytjppkcfbhhjniaa
