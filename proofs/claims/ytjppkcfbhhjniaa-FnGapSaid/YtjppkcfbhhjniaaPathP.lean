/-
  Plain: paths as two rows of times; when a path is one, when two clash, when many are paths of a line. No program in sight.
-/
import Derived.WalkKit
namespace Go.Proofs.Ytjppkcfbhhjniaa
open Go.RowKit

/-- The times of entering (m1 of them), the times of leaving (m2 of them). -/
structure PD where
  m1 : Nat
  f1 : Nat → Int
  m2 : Nat
  f2 : Nat → Int
/-- The time before which section j can't be entered. -/
def pv (f : Nat → Int) : Nat → Int
  | 0 => 0
  | j + 1 => f j
/-- The first m sections' times are right. -/
def timesV (m : Nat) (f g : Nat → Int) : Prop := ∀ j, j < m → pv g j ≤ f j ∧ f j < g j ∧ g j ≤ 2000
instance (m : Nat) (f g : Nat → Int) : Decidable (timesV m f g) := by unfold timesV; infer_instance
section
variable {m k : Nat} {f g : Nat → Int}
theorem timesV_zero (f g : Nat → Int) : timesV 0 f g := fun _ h => absurd h (by omega)
theorem timesV_step (h : timesV m f g) (h1 : pv g m ≤ f m) (h2 : f m < g m) (h3 : g m ≤ 2000) : timesV (m + 1) f g := fun j hj => by
  by_cases e : j = m
  · subst e; exact ⟨h1, h2, h3⟩
  · exact h j (by omega)
theorem timesV_no (hk : k < m) (h : ¬ (pv g k ≤ f k ∧ f k < g k ∧ g k ≤ 2000)) : ¬ timesV m f g := fun hh => h (hh k hk)
theorem timesV_nonneg (h : timesV m f g) : ∀ j, j < m → 0 ≤ pv g j ∧ 0 ≤ f j ∧ f j < g j ∧ g j ≤ 2000 := by
  intro j
  induction j with
  | zero => intro hj; have := h 0 hj; simp only [pv] at this ⊢; omega
  | succ j ih =>
    intro hj
    have h1 := ih (by omega)
    have h2 := h (j + 1) hj
    simp only [pv] at h2 ⊢
    omega
end
/-- PathValid. -/
def pathV (n : Int) (p : PD) : Bool := decide (1 ≤ n ∧ n ≤ 5 ∧ (p.m1 : Int) = n ∧ (p.m2 : Int) = n ∧ timesV n.toNat p.f1 p.f2)
section
variable {n : Int} {p : PD}
theorem pathV_iff : pathV n p = true ↔ (1 ≤ n ∧ n ≤ 5 ∧ (p.m1 : Int) = n ∧ (p.m2 : Int) = n ∧ timesV n.toNat p.f1 p.f2) := decide_eq_true_iff
theorem pathV_no (h : ¬ (1 ≤ n ∧ n ≤ 5 ∧ (p.m1 : Int) = n ∧ (p.m2 : Int) = n ∧ timesV n.toNat p.f1 p.f2)) : pathV n p = false := decide_eq_false h
theorem pathV_times (h : pathV n p = true) {k : Nat} (hk : (k : Int) < n) : 0 ≤ p.f1 k ∧ p.f1 k < p.f2 k ∧ p.f2 k ≤ 2000 := by
  obtain ⟨_, _, _, _, ht⟩ := pathV_iff.1 h
  exact (timesV_nonneg ht k (by omega)).2
end
/-- Do two paths clash in a section? -/
def clash (a b : PD) (k : Nat) : Bool := decide (a.f1 k < b.f2 k) && decide (b.f1 k < a.f2 k)
theorem clash_comm (a b : PD) (k : Nat) : clash a b k = clash b a k := Bool.and_comm _ _
/-- The first m sections in which two paths clash. -/
def clashT (a b : PD) (m : Nat) : List Int := ((List.range m).filter (clash a b)).map Int.ofNat
theorem clashT_zero (a b : PD) : clashT a b 0 = [] := rfl
theorem clashT_succ (a b : PD) (m : Nat) : clashT a b (m + 1) = clashT a b m ++ if clash a b m = true then [(m : Int)] else [] := by
  unfold clashT
  rw [List.range_succ, List.filter_append, List.map_append]
  congr 1
  by_cases h : clash a b m = true
  · simp [h]
  · simp [h]
theorem clashT_yes {a b : PD} {m : Nat} (h : clash a b m = true) : clashT a b (m + 1) = clashT a b m ++ [(m : Int)] := by rw [clashT_succ, if_pos h]
theorem clashT_no {a b : PD} {m : Nat} (h : clash a b m = false) : clashT a b (m + 1) = clashT a b m := by rw [clashT_succ, if_neg (by simp [h])]; simp
theorem clashT_len (a b : PD) (m : Nat) : (clashT a b m).length ≤ m := by
  unfold clashT
  rw [List.length_map]
  exact Nat.le_trans (List.length_filter_le _ _) (by simp)
theorem clashT_comm (a b : PD) (m : Nat) : clashT a b m = clashT b a m := by
  unfold clashT
  congr 1
  exact List.filter_congr fun k _ => clash_comm a b k
/-- PathClash. -/
def clashL (n : Int) (a b : PD) : List Int := if pathV n a = true ∧ pathV n b = true then clashT a b n.toNat else []
theorem clashL_yes {n : Int} {a b : PD} (ha : pathV n a = true) (hb : pathV n b = true) : clashL n a b = clashT a b n.toNat := if_pos ⟨ha, hb⟩
theorem clashL_no1 {n : Int} {a b : PD} (ha : pathV n a = false) : clashL n a b = [] := if_neg (by simp [ha])
theorem clashL_no2 {n : Int} {a b : PD} (hb : pathV n b = false) : clashL n a b = [] := if_neg (by simp [hb])
theorem clashL_comm (n : Int) (a b : PD) : clashL n a b = clashL n b a := by
  cases ha : pathV n a
  · rw [clashL_no1 ha, clashL_no2 ha]
  cases hb : pathV n b
  · rw [clashL_no2 hb, clashL_no1 hb]
  rw [clashL_yes ha hb, clashL_yes hb ha, clashT_comm]
theorem clashL_len (n : Int) (a b : PD) : (clashL n a b).length ≤ 5 := by
  unfold clashL
  split
  · rename_i h
    have := clashT_len a b n.toNat
    have := (pathV_iff.1 h.1).2.1
    omega
  · simp
/-- The first m paths are right, and none of them clash. -/
def firstV (n : Int) (l : Nat → PD) (m : Nat) : Prop := ∀ i, i < m → pathV n (l i) = true ∧ ∀ j, j < i → clashL n (l j) (l i) = []
instance (n : Int) (l : Nat → PD) (m : Nat) : Decidable (firstV n l m) := by unfold firstV; infer_instance
section
variable {n : Int} {l : Nat → PD} {m k j : Nat}
theorem firstV_zero (n : Int) (l : Nat → PD) : firstV n l 0 := fun _ h => absurd h (by omega)
theorem firstV_step (h : firstV n l m) (h1 : pathV n (l m) = true) (h2 : ∀ j, j < m → clashL n (l j) (l m) = []) : firstV n l (m + 1) := fun i hi => by
  by_cases e : i = m
  · subst e; exact ⟨h1, h2⟩
  · exact h i (by omega)
theorem firstV_no1 (hk : k < m) (h : pathV n (l k) = false) : ¬ firstV n l m := fun hh => by
  have := (hh k hk).1
  rw [h] at this; cases this
theorem firstV_no2 (hk : k < m) (hj : j < k) (h : clashL n (l j) (l k) ≠ []) : ¬ firstV n l m := fun hh => h ((hh k hk).2 j hj)
end
/-- PathsValid, of m paths. -/
def pathsV (n : Int) (l : Nat → PD) (m : Nat) : Bool := decide (1 ≤ n ∧ n ≤ 5 ∧ m ≤ 8 ∧ firstV n l m)
theorem pathsV_iff {n : Int} {l : Nat → PD} {m : Nat} : pathsV n l m = true ↔ (1 ≤ n ∧ n ≤ 5 ∧ m ≤ 8 ∧ firstV n l m) := decide_eq_true_iff
theorem pathsV_no {n : Int} {l : Nat → PD} {m : Nat} (h : ¬ (1 ≤ n ∧ n ≤ 5 ∧ m ≤ 8 ∧ firstV n l m)) : pathsV n l m = false := decide_eq_false h
/-- All times k later. -/
def lateD (k : Int) (p : PD) : PD := ⟨p.m1, fun j => p.f1 j + k, p.m2, fun j => p.f2 j + k⟩
/-- Does PathLate answer? -/
def lateV (n : Int) (p : PD) (k : Int) : Bool := pathV n p && (decide (-2000 ≤ k ∧ k ≤ 2000) && pathV n (lateD k p))
theorem lateV_yes {n : Int} {p : PD} {k : Int} (h : pathV n p = true) (h1 : -2000 ≤ k ∧ k ≤ 2000) (h2 : pathV n (lateD k p) = true) : lateV n p k = true := by simp [lateV, h, h1, h2]
theorem lateV_no1 {n : Int} {p : PD} {k : Int} (h : pathV n p = false) : lateV n p k = false := by simp [lateV, h]
theorem lateV_no2 {n : Int} {p : PD} {k : Int} (h : ¬ (-2000 ≤ k ∧ k ≤ 2000)) : lateV n p k = false := by unfold lateV; rw [decide_eq_false h]; simp
theorem lateV_no3 {n : Int} {p : PD} {k : Int} (h : pathV n (lateD k p) = false) : lateV n p k = false := by simp [lateV, h]
end Go.Proofs.Ytjppkcfbhhjniaa
