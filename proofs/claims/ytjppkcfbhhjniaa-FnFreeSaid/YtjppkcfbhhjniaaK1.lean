/-
  Plain: paths as two rows of times; when a path is one, when two clash, when many are paths of a line. No program in sight.
-/
import Derived.WalkKit
import Derived.Below
import Derived.OneCell
import Derived.Deep.Heap
import Derived.Handy
import Derived.Laws.AppendOwn
import Derived.Laws.BitsAllLaws
import Derived.Laws.BitsLemmas
import Derived.Deep.Draws
import Derived.ChangeSame
import Derived.OpenShut
import Derived.Deep.OwnRows
import Derived.Deep.SlicePairs

namespace Go.Proofs.Ytjppkcfbhhjniaa
open Go.RowKit

/-- The times of entering (m1 of them), the times of leaving (m2 of them). -/
structure PD where
  m1 : Nat
  f1 : Nat → Int
  m2 : Nat
  f2 : Nat → Int
/-- The time before which section j can't be entered. -/
def pv (f : Nat → Int) : Nat → Int
  | 0 => 0
  | j + 1 => f j
/-- The first m sections' times are right. -/
def timesV (m : Nat) (f g : Nat → Int) : Prop := ∀ j, j < m → pv g j ≤ f j ∧ f j < g j ∧ g j ≤ 2000
instance (m : Nat) (f g : Nat → Int) : Decidable (timesV m f g) := by unfold timesV; infer_instance
section
variable {m k : Nat} {f g : Nat → Int}
theorem timesV_zero (f g : Nat → Int) : timesV 0 f g := fun _ h => absurd h (by omega)
theorem timesV_step (h : timesV m f g) (h1 : pv g m ≤ f m) (h2 : f m < g m) (h3 : g m ≤ 2000) : timesV (m + 1) f g := fun j hj => by
  by_cases e : j = m
  · subst e; exact ⟨h1, h2, h3⟩
  · exact h j (by omega)
theorem timesV_no (hk : k < m) (h : ¬ (pv g k ≤ f k ∧ f k < g k ∧ g k ≤ 2000)) : ¬ timesV m f g := fun hh => h (hh k hk)
theorem timesV_nonneg (h : timesV m f g) : ∀ j, j < m → 0 ≤ pv g j ∧ 0 ≤ f j ∧ f j < g j ∧ g j ≤ 2000 := by
  intro j
  induction j with
  | zero => intro hj; have := h 0 hj; simp only [pv] at this ⊢; omega
  | succ j ih =>
    intro hj
    have h1 := ih (by omega)
    have h2 := h (j + 1) hj
    simp only [pv] at h2 ⊢
    omega
end
/-- PathValid. -/
def pathV (n : Int) (p : PD) : Bool := decide (1 ≤ n ∧ n ≤ 5 ∧ (p.m1 : Int) = n ∧ (p.m2 : Int) = n ∧ timesV n.toNat p.f1 p.f2)
section
variable {n : Int} {p : PD}
theorem pathV_iff : pathV n p = true ↔ (1 ≤ n ∧ n ≤ 5 ∧ (p.m1 : Int) = n ∧ (p.m2 : Int) = n ∧ timesV n.toNat p.f1 p.f2) := decide_eq_true_iff
theorem pathV_no (h : ¬ (1 ≤ n ∧ n ≤ 5 ∧ (p.m1 : Int) = n ∧ (p.m2 : Int) = n ∧ timesV n.toNat p.f1 p.f2)) : pathV n p = false := decide_eq_false h
theorem pathV_times (h : pathV n p = true) {k : Nat} (hk : (k : Int) < n) : 0 ≤ p.f1 k ∧ p.f1 k < p.f2 k ∧ p.f2 k ≤ 2000 := by
  obtain ⟨_, _, _, _, ht⟩ := pathV_iff.1 h
  exact (timesV_nonneg ht k (by omega)).2
end
/-- Do two paths clash in a section? -/
def clash (a b : PD) (k : Nat) : Bool := decide (a.f1 k < b.f2 k) && decide (b.f1 k < a.f2 k)
theorem clash_comm (a b : PD) (k : Nat) : clash a b k = clash b a k := Bool.and_comm _ _
/-- The first m sections in which two paths clash. -/
def clashT (a b : PD) (m : Nat) : List Int := ((List.range m).filter (clash a b)).map Int.ofNat
theorem clashT_zero (a b : PD) : clashT a b 0 = [] := rfl
theorem clashT_succ (a b : PD) (m : Nat) : clashT a b (m + 1) = clashT a b m ++ if clash a b m = true then [(m : Int)] else [] := by
  unfold clashT
  rw [List.range_succ, List.filter_append, List.map_append]
  congr 1
  by_cases h : clash a b m = true
  · simp [h]
  · simp [h]
theorem clashT_yes {a b : PD} {m : Nat} (h : clash a b m = true) : clashT a b (m + 1) = clashT a b m ++ [(m : Int)] := by rw [clashT_succ, if_pos h]
theorem clashT_no {a b : PD} {m : Nat} (h : clash a b m = false) : clashT a b (m + 1) = clashT a b m := by rw [clashT_succ, if_neg (by simp [h])]; simp
theorem clashT_len (a b : PD) (m : Nat) : (clashT a b m).length ≤ m := by
  unfold clashT
  rw [List.length_map]
  exact Nat.le_trans (List.length_filter_le _ _) (by simp)
theorem clashT_comm (a b : PD) (m : Nat) : clashT a b m = clashT b a m := by
  unfold clashT
  congr 1
  exact List.filter_congr fun k _ => clash_comm a b k
/-- PathClash. -/
def clashL (n : Int) (a b : PD) : List Int := if pathV n a = true ∧ pathV n b = true then clashT a b n.toNat else []
theorem clashL_yes {n : Int} {a b : PD} (ha : pathV n a = true) (hb : pathV n b = true) : clashL n a b = clashT a b n.toNat := if_pos ⟨ha, hb⟩
theorem clashL_no1 {n : Int} {a b : PD} (ha : pathV n a = false) : clashL n a b = [] := if_neg (by simp [ha])
theorem clashL_no2 {n : Int} {a b : PD} (hb : pathV n b = false) : clashL n a b = [] := if_neg (by simp [hb])
theorem clashL_comm (n : Int) (a b : PD) : clashL n a b = clashL n b a := by
  cases ha : pathV n a
  · rw [clashL_no1 ha, clashL_no2 ha]
  cases hb : pathV n b
  · rw [clashL_no2 hb, clashL_no1 hb]
  rw [clashL_yes ha hb, clashL_yes hb ha, clashT_comm]
theorem clashL_len (n : Int) (a b : PD) : (clashL n a b).length ≤ 5 := by
  unfold clashL
  split
  · rename_i h
    have := clashT_len a b n.toNat
    have := (pathV_iff.1 h.1).2.1
    omega
  · simp
/-- The first m paths are right, and none of them clash. -/
def firstV (n : Int) (l : Nat → PD) (m : Nat) : Prop := ∀ i, i < m → pathV n (l i) = true ∧ ∀ j, j < i → clashL n (l j) (l i) = []
instance (n : Int) (l : Nat → PD) (m : Nat) : Decidable (firstV n l m) := by unfold firstV; infer_instance
section
variable {n : Int} {l : Nat → PD} {m k j : Nat}
theorem firstV_zero (n : Int) (l : Nat → PD) : firstV n l 0 := fun _ h => absurd h (by omega)
theorem firstV_step (h : firstV n l m) (h1 : pathV n (l m) = true) (h2 : ∀ j, j < m → clashL n (l j) (l m) = []) : firstV n l (m + 1) := fun i hi => by
  by_cases e : i = m
  · subst e; exact ⟨h1, h2⟩
  · exact h i (by omega)
theorem firstV_no1 (hk : k < m) (h : pathV n (l k) = false) : ¬ firstV n l m := fun hh => by
  have := (hh k hk).1
  rw [h] at this; cases this
theorem firstV_no2 (hk : k < m) (hj : j < k) (h : clashL n (l j) (l k) ≠ []) : ¬ firstV n l m := fun hh => h ((hh k hk).2 j hj)
end
/-- PathsValid, of m paths. -/
def pathsV (n : Int) (l : Nat → PD) (m : Nat) : Bool := decide (1 ≤ n ∧ n ≤ 5 ∧ m ≤ 8 ∧ firstV n l m)
theorem pathsV_iff {n : Int} {l : Nat → PD} {m : Nat} : pathsV n l m = true ↔ (1 ≤ n ∧ n ≤ 5 ∧ m ≤ 8 ∧ firstV n l m) := decide_eq_true_iff
theorem pathsV_no {n : Int} {l : Nat → PD} {m : Nat} (h : ¬ (1 ≤ n ∧ n ≤ 5 ∧ m ≤ 8 ∧ firstV n l m)) : pathsV n l m = false := decide_eq_false h
/-- All times k later. -/
def lateD (k : Int) (p : PD) : PD := ⟨p.m1, fun j => p.f1 j + k, p.m2, fun j => p.f2 j + k⟩
/-- Does PathLate answer? -/
def lateV (n : Int) (p : PD) (k : Int) : Bool := pathV n p && (decide (-2000 ≤ k ∧ k ≤ 2000) && pathV n (lateD k p))
theorem lateV_yes {n : Int} {p : PD} {k : Int} (h : pathV n p = true) (h1 : -2000 ≤ k ∧ k ≤ 2000) (h2 : pathV n (lateD k p) = true) : lateV n p k = true := by simp [lateV, h, h1, h2]
theorem lateV_no1 {n : Int} {p : PD} {k : Int} (h : pathV n p = false) : lateV n p k = false := by simp [lateV, h]
theorem lateV_no2 {n : Int} {p : PD} {k : Int} (h : ¬ (-2000 ≤ k ∧ k ≤ 2000)) : lateV n p k = false := by unfold lateV; rw [decide_eq_false h]; simp
theorem lateV_no3 {n : Int} {p : PD} {k : Int} (h : pathV n (lateD k p) = false) : lateV n p k = false := by simp [lateV, h]
end Go.Proofs.Ytjppkcfbhhjniaa

/-
  Plain: the least free time of a section; the order of trains; going on behind all trains that are in the way.
-/
namespace Go.Proofs.Ytjppkcfbhhjniaa
open Go.RowKit

/-- Does a train from t on, for run minutes, meet another one? -/
def hit (f g : Nat → Int) (m : Nat) (run t : Int) : Prop := ∃ i, i < m ∧ t < g i ∧ f i < t + run
def IsFree (f g : Nat → Int) (m : Nat) (frm run v : Int) (ok : Bool) : Prop :=
  (ok = true ∧ frm ≤ v ∧ v + run ≤ 2000 ∧ ¬ hit f g m run v ∧ ∀ s, frm ≤ s → s < v → hit f g m run s) ∨ (ok = false ∧ v = 0 ∧ ∀ s, frm ≤ s → s + run ≤ 2000 → hit f g m run s)
theorem IsFree.eq {f g : Nat → Int} {m : Nat} {frm run v u : Int} {a b : Bool} (h : IsFree f g m frm run v a) (k : IsFree f g m frm run u b) : v = u ∧ a = b := by
  rcases h with ⟨rfl, h1, h2, h3, h4⟩ | ⟨rfl, h1, h2⟩ <;> rcases k with ⟨rfl, k1, k2, k3, k4⟩ | ⟨rfl, k1, k2⟩
  · refine ⟨?_, rfl⟩
    rcases Int.lt_trichotomy v u with h | h | h
    · exact absurd (k4 v h1 h) h3
    · exact h
    · exact absurd (h4 u k1 h) k3
  · exact absurd (k2 v h1 h2) h3
  · exact absurd (h2 u k1 k2) k3
  · exact ⟨h1.trans k1.symm, rfl⟩
theorem isFree_ex (f g : Nat → Int) (m : Nat) (frm run : Int) : ∃ v ok, IsFree f g m frm run v ok := by
  have key : ∀ j : Nat, (∀ s, frm ≤ s → s < frm + j → hit f g m run s) ∨ ∃ v, frm ≤ v ∧ ¬ hit f g m run v ∧ ∀ s, frm ≤ s → s < v → hit f g m run s := by
    intro j
    induction j with
    | zero => exact .inl fun s h1 h2 => by omega
    | succ j ih =>
      rcases ih with h | h
      · rcases Classical.em (hit f g m run (frm + j)) with hh | hh
        · refine .inl fun s h1 h2 => ?_
          by_cases e : s = frm + j
          · subst e; exact hh
          · exact h s h1 (by omega)
        · exact .inr ⟨frm + j, by omega, hh, fun s h1 h2 => h s h1 (by omega)⟩
      · exact .inr h
  rcases key (2001 - run - frm).toNat with h | ⟨v, h1, h2, h3⟩
  · exact ⟨0, false, .inr ⟨rfl, rfl, fun s h1 h2 => h s h1 (by omega)⟩⟩
  · by_cases hv : v + run ≤ 2000
    · exact ⟨v, true, .inl ⟨rfl, h1, hv, h2, h3⟩⟩
    · exact ⟨0, false, .inr ⟨rfl, rfl, fun s h4 h5 => h3 s h4 (by omega)⟩⟩
/-- A train's place in an order. -/
def ins (f : Nat → Int) (x : Nat) : List Nat → List Nat
  | [] => [x]
  | y :: r => if f y < f x then y :: ins f x r else x :: y :: r
def ordN (f : Nat → Int) : Nat → List Nat
  | 0 => []
  | i + 1 => ins f i (ordN f i)
theorem ins_at (f : Nat → Int) (x : Nat) (l : List Nat) : ∀ (p : Nat), p ≤ l.length → (∀ j (h : j < l.length), j < p → f l[j] < f x) → (∀ h : p < l.length, ¬ f l[p] < f x) → ins f x l = l.take p ++ x :: l.drop p := by
  induction l with
  | nil => intro p h1 h2 h3; simp [ins]
  | cons y r ih =>
    intro p h1 h2 h3
    cases p with
    | zero => have := h3 (by simp); simp only [List.getElem_cons_zero] at this; simp [ins, this]
    | succ p =>
      have h := h2 0 (by simp) (by omega)
      simp only [List.getElem_cons_zero] at h
      simp only [ins, if_pos h, List.take_succ_cons, List.drop_succ_cons, List.cons_append]
      rw [ih p (by simpa using h1) (fun j hj hp => by have := h2 (j + 1) (by simpa using hj) (by omega); simpa using this) (fun hp => by have := h3 (by simpa using hp); simpa using this)]
theorem ins_len (f : Nat → Int) (x : Nat) (l : List Nat) : (ins f x l).length = l.length + 1 := by
  induction l with
  | nil => rfl
  | cons y r ih => simp only [ins]; split <;> simp [ih]
theorem ins_mem (f : Nat → Int) (x z : Nat) (l : List Nat) : z ∈ ins f x l ↔ z = x ∨ z ∈ l := by
  induction l with
  | nil => simp [ins]
  | cons y r ih =>
    simp only [ins]
    split
    · simp only [List.mem_cons, ih]
      constructor
      · rintro (h | h | h)
        · exact .inr (.inl h)
        · exact .inl h
        · exact .inr (.inr h)
      · rintro (h | h | h)
        · exact .inr (.inl h)
        · exact .inl h
        · exact .inr (.inr h)
    · simp
theorem ins_sorted (f : Nat → Int) (x : Nat) (l : List Nat) (h : l.Pairwise fun a b => f a ≤ f b) : (ins f x l).Pairwise fun a b => f a ≤ f b := by
  induction l with
  | nil => simp [ins]
  | cons y r ih =>
    rw [List.pairwise_cons] at h
    simp only [ins]
    split
    · rename_i hlt
      rw [List.pairwise_cons]
      refine ⟨fun z hz => ?_, ih h.2⟩
      rcases (ins_mem f x z r).1 hz with rfl | hz
      · omega
      · exact h.1 z hz
    · rename_i hlt
      rw [List.pairwise_cons]
      refine ⟨fun z hz => ?_, List.pairwise_cons.2 h⟩
      rcases List.mem_cons.1 hz with rfl | hz
      · omega
      · have := h.1 z hz; omega
theorem ord_len (f : Nat → Int) (i : Nat) : (ordN f i).length = i := by
  induction i with
  | zero => rfl
  | succ i ih => rw [ordN, ins_len, ih]
theorem ord_mem (f : Nat → Int) (i z : Nat) : z ∈ ordN f i ↔ z < i := by
  induction i with
  | zero => simp [ordN]
  | succ i ih => rw [ordN, ins_mem, ih]; omega
theorem ord_sorted (f : Nat → Int) (i : Nat) : (ordN f i).Pairwise fun a b => f a ≤ f b := by
  induction i with
  | zero => simp [ordN]
  | succ i ih => exact ins_sorted f i _ ih
theorem ord_lt (f : Nat → Int) (i : Nat) {j : Nat} (h : j < (ordN f i).length) : (ordN f i)[j] < i := (ord_mem f i _).1 (List.getElem_mem h)
/-- Behind all trains that are in the way. -/
def freeGo (f g : Nat → Int) (run : Int) : Int → List Nat → Int
  | t, [] => t
  | t, x :: r => if t < g x ∧ f x < t + run then freeGo f g run (g x) r else freeGo f g run t r
theorem freeGo_stay (f g : Nat → Int) (run : Int) (l : List Nat) : ∀ t, (∀ x ∈ l, t + run ≤ f x) → freeGo f g run t l = t := by
  induction l with
  | nil => intro t h; rfl
  | cons x r ih =>
    intro t h
    have hx := h x (by simp)
    rw [freeGo, if_neg (by omega)]
    exact ih t fun y hy => h y (by simp [hy])
theorem freeGo_facts (f g : Nat → Int) (run : Int) (l : List Nat) (hs : l.Pairwise fun a b => f a ≤ f b) : ∀ t, t ≤ freeGo f g run t l ∧ (∀ x ∈ l, g x ≤ freeGo f g run t l ∨ freeGo f g run t l + run ≤ f x) ∧ ∀ s, t ≤ s → s < freeGo f g run t l → ∃ x ∈ l, s < g x ∧ f x < s + run := by
  induction l with
  | nil =>
    intro t
    simp only [freeGo]
    refine ⟨Int.le_refl _, ?_, ?_⟩
    · intro x hx; cases hx
    · intro s h1 h2; omega
  | cons x r ih =>
    rw [List.pairwise_cons] at hs
    intro t
    rw [freeGo]
    split
    · rename_i hc
      obtain ⟨h1, h2, h3⟩ := ih hs.2 (g x)
      refine ⟨by omega, fun y hy => ?_, fun s k1 k2 => ?_⟩
      · rcases List.mem_cons.1 hy with rfl | hy
        · exact .inl h1
        · exact h2 y hy
      · by_cases hk : g x ≤ s
        · obtain ⟨y, hy, h4⟩ := h3 s hk k2; exact ⟨y, by simp [hy], h4⟩
        · exact ⟨x, by simp, by omega, by omega⟩
    · rename_i hc
      obtain ⟨h1, h2, h3⟩ := ih hs.2 t
      refine ⟨h1, fun y hy => ?_, fun s k1 k2 => ?_⟩
      · rcases List.mem_cons.1 hy with rfl | hy
        · by_cases hk : g y ≤ t
          · exact .inl (by omega)
          · have e := freeGo_stay f g run r t fun z hz => by have := hs.1 z hz; omega
            rw [e]; exact .inr (by omega)
        · exact h2 y hy
      · obtain ⟨y, hy, h4⟩ := h3 s k1 k2; exact ⟨y, by simp [hy], h4⟩
theorem freeGo_bd (f g : Nat → Int) (run : Int) (l : List Nat) (hg : ∀ x ∈ l, 0 ≤ g x ∧ g x ≤ 2000) : ∀ t, 0 ≤ t → t ≤ 2000 → 0 ≤ freeGo f g run t l ∧ freeGo f g run t l ≤ 2000 := by
  induction l with
  | nil => intro t h0 h; exact ⟨h0, h⟩
  | cons x r ih =>
    intro t h0 h
    have hx := hg x (by simp)
    rw [freeGo]
    split
    · exact ih (fun y hy => hg y (by simp [hy])) _ hx.1 hx.2
    · exact ih (fun y hy => hg y (by simp [hy])) _ h0 h
theorem free_yes (f g : Nat → Int) (m : Nat) (frm run : Int) (h : freeGo f g run frm (ordN f m) + run ≤ 2000) : IsFree f g m frm run (freeGo f g run frm (ordN f m)) true := by
  obtain ⟨h1, h2, h3⟩ := freeGo_facts f g run _ (ord_sorted f m) frm
  refine .inl ⟨rfl, h1, h, ?_, fun s k1 k2 => ?_⟩
  · rintro ⟨i, hi, k1, k2⟩
    rcases h2 i ((ord_mem f m i).2 hi) with h | h <;> omega
  · obtain ⟨x, hx, k⟩ := h3 s k1 k2; exact ⟨x, (ord_mem f m x).1 hx, k⟩
theorem free_no (f g : Nat → Int) (m : Nat) (frm run : Int) (h : 2000 < freeGo f g run frm (ordN f m) + run) : IsFree f g m frm run 0 false := by
  obtain ⟨h1, h2, h3⟩ := freeGo_facts f g run _ (ord_sorted f m) frm
  refine .inr ⟨rfl, rfl, fun s k1 k2 => ?_⟩
  obtain ⟨x, hx, k⟩ := h3 s k1 (by omega); exact ⟨x, (ord_mem f m x).1 hx, k⟩
theorem free_late (f g : Nat → Int) (m : Nat) (frm run : Int) (h : 2000 < frm) (hr : 1 ≤ run) : IsFree f g m frm run 0 false := .inr ⟨rfl, rfl, fun s k1 k2 => by omega⟩
end Go.Proofs.Ytjppkcfbhhjniaa

/-
  Plain: from section to section, each as soon as it is free.
-/
namespace Go.Proofs.Ytjppkcfbhhjniaa
open Go.RowKit

noncomputable def frT (D : Nat → PD) (m k : Nat) (run t : Int) : Int := Classical.choose (isFree_ex (fun i => (D i).f1 k) (fun i => (D i).f2 k) m t run)
noncomputable def frB (D : Nat → PD) (m k : Nat) (run t : Int) : Bool := Classical.choose (Classical.choose_spec (isFree_ex (fun i => (D i).f1 k) (fun i => (D i).f2 k) m t run))
theorem fr_is (D : Nat → PD) (m k : Nat) (run t : Int) : IsFree (fun i => (D i).f1 k) (fun i => (D i).f2 k) m t run (frT D m k run t) (frB D m k run t) :=
  Classical.choose_spec (Classical.choose_spec (isFree_ex (fun i => (D i).f1 k) (fun i => (D i).f2 k) m t run))
/-- When the train is ready for section k. -/
noncomputable def rdy (D : Nat → PD) (m : Nat) (f : Nat → Int) (frm : Int) : Nat → Int
  | 0 => frm
  | k + 1 => frT D m k (f k) (rdy D m f frm k) + f k
noncomputable def inT (D : Nat → PD) (m : Nat) (f : Nat → Int) (frm : Int) (k : Nat) : Int := frT D m k (f k) (rdy D m f frm k)
noncomputable def okB (D : Nat → PD) (m : Nat) (f : Nat → Int) (frm : Int) (k : Nat) : Bool := frB D m k (f k) (rdy D m f frm k)
def okTo (D : Nat → PD) (m : Nat) (f : Nat → Int) (frm : Int) (j : Nat) : Prop := ∀ k, k < j → okB D m f frm k = true
theorem rdy_succ (D : Nat → PD) (m : Nat) (f : Nat → Int) (frm : Int) (k : Nat) : rdy D m f frm (k + 1) = inT D m f frm k + f k := rfl
theorem inT_is (D : Nat → PD) (m : Nat) (f : Nat → Int) (frm : Int) (k : Nat) : IsFree (fun i => (D i).f1 k) (fun i => (D i).f2 k) m (rdy D m f frm k) (f k) (inT D m f frm k) (okB D m f frm k) := fr_is _ _ _ _ _
theorem inT_bd {D : Nat → PD} {m : Nat} {f : Nat → Int} {frm : Int} {k : Nat} (h : okB D m f frm k = true) : rdy D m f frm k ≤ inT D m f frm k ∧ inT D m f frm k + f k ≤ 2000 := by
  rcases inT_is D m f frm k with ⟨_, h1, h2, _⟩ | ⟨h1, _⟩
  · exact ⟨h1, h2⟩
  · rw [h] at h1; cases h1
theorem rdy_bd {D : Nat → PD} {m : Nat} {f : Nat → Int} {frm : Int} {j : Nat} (h : okTo D m f frm j) (h0 : 0 ≤ frm) (hf : ∀ k, k < j → 1 ≤ f k) : 0 ≤ rdy D m f frm j := by
  induction j with
  | zero => exact h0
  | succ j ih =>
    have h1 := ih (fun k hk => h k (by omega)) (fun k hk => hf k (by omega))
    have h2 := inT_bd (h j (by omega))
    have h3 := hf j (by omega)
    rw [rdy_succ]; omega
theorem okTo_step {D : Nat → PD} {m : Nat} {f : Nat → Int} {frm : Int} {j : Nat} (h : okTo D m f frm j) (h1 : okB D m f frm j = true) : okTo D m f frm (j + 1) := fun k hk => by
  by_cases e : k = j
  · subst e; exact h1
  · exact h k (by omega)
end Go.Proofs.Ytjppkcfbhhjniaa

/-
  Plain: a fitted path is a path, and clashes with none.
-/
namespace Go.Proofs.Ytjppkcfbhhjniaa
open Go.RowKit

theorem fit_valid {D : Nat → PD} {m r : Nat} {f : Nat → Int} {frm : Int} (hr : 1 ≤ r ∧ r ≤ 5) (hf : ∀ k, k < r → 1 ≤ f k ∧ f k ≤ 100) (h0 : 0 ≤ frm) (hok : okTo D m f frm r) :
    pathV r ⟨r, inT D m f frm, r, fun k => rdy D m f frm (k + 1)⟩ = true := by
  refine pathV_iff.2 ⟨by omega, by omega, rfl, rfl, fun j hj => ?_⟩
  rw [Int.toNat_natCast] at hj
  have hb := inT_bd (hok j hj)
  have h1 := hf j hj
  refine ⟨?_, ?_, ?_⟩
  · cases j with
    | zero =>
      have e : rdy D m f frm 0 = frm := rfl
      rw [e] at hb
      show (0 : Int) ≤ inT D m f frm 0
      omega
    | succ j => exact hb.1
  · show inT D m f frm j < rdy D m f frm (j + 1)
    rw [rdy_succ]; omega
  · show rdy D m f frm (j + 1) ≤ 2000
    rw [rdy_succ]; exact hb.2
theorem fit_apart {D : Nat → PD} {m r : Nat} {f : Nat → Int} {frm : Int} (hok : okTo D m f frm r) {i k : Nat} (hi : i < m) (hk : k < r) :
    clash (D i) ⟨r, inT D m f frm, r, fun k => rdy D m f frm (k + 1)⟩ k = false := by
  rcases inT_is D m f frm k with ⟨_, _, _, hn, _⟩ | ⟨h, _⟩
  · cases hc : clash (D i) ⟨r, inT D m f frm, r, fun k => rdy D m f frm (k + 1)⟩ k
    · rfl
    · unfold clash at hc
      rw [Bool.and_eq_true, decide_eq_true_eq, decide_eq_true_eq] at hc
      exact absurd ⟨i, hi, hc.2, by have := hc.1; simp only [rdy_succ] at this; exact this⟩ hn
  · rw [hok k hk] at h; cases h
theorem fit_clash {D : Nat → PD} {m r : Nat} {f : Nat → Int} {frm : Int} (hok : okTo D m f frm r) {i : Nat} (hi : i < m) : clashL r (D i) ⟨r, inT D m f frm, r, fun k => rdy D m f frm (k + 1)⟩ = [] := by
  have key : ∀ k, k ≤ r → clashT (D i) ⟨r, inT D m f frm, r, fun k => rdy D m f frm (k + 1)⟩ k = [] := by
    intro k
    induction k with
    | zero => intro _; rfl
    | succ k ih => intro hk; rw [clashT_no (fit_apart hok hi (by omega))]; exact ih (by omega)
  unfold clashL
  split
  · rw [Int.toNat_natCast]; exact key r (Nat.le_refl _)
  · rfl
/-- The paths with one more behind all others. -/
def addD (D : Nat → PD) (m : Nat) (p : PD) : Nat → PD := fun i => if i = m then p else D i
/-- With the fitted path they are paths of the line still, where there is room. -/
theorem fit_first {D : Nat → PD} {m r : Nat} {f : Nat → Int} {frm : Int} (hv : firstV r D m) (hr : 1 ≤ r ∧ r ≤ 5) (hf : ∀ k, k < r → 1 ≤ f k ∧ f k ≤ 100) (h0 : 0 ≤ frm) (hok : okTo D m f frm r) :
    firstV r (addD D m ⟨r, inT D m f frm, r, fun k => rdy D m f frm (k + 1)⟩) (m + 1) := by
  intro i hi
  by_cases e : i = m
  · subst e
    simp only [addD, if_true]
    refine ⟨fit_valid hr hf h0 hok, fun j hj => ?_⟩
    rw [if_neg (by omega)]
    exact fit_clash hok hj
  · obtain ⟨h1, h2⟩ := hv i (by omega)
    simp only [addD, if_neg e]
    exact ⟨h1, fun j hj => by rw [if_neg (by omega)]; exact h2 j hj⟩
end Go.Proofs.Ytjppkcfbhhjniaa

/-
  Plain: sorting by insertion from the right, of trains that enter at different times, gives their order.
-/
namespace Go.Proofs.Ytjppkcfbhhjniaa
open Go.RowKit

/-- The train at place t of the first i in their order. -/
def ordAt (f : Nat → Int) (i t : Nat) : Nat := (ordN f i).getD t 0
theorem ordAt_eq {f : Nat → Int} {i t : Nat} (h : t < (ordN f i).length) : ordAt f i t = (ordN f i)[t] := by simp [ordAt, List.getD, h]
theorem ordAt_lt {f : Nat → Int} {i t : Nat} (h : t < i) : ordAt f i t < i := by
  have h2 : t < (ordN f i).length := by rw [ord_len]; exact h
  rw [ordAt_eq h2]; exact ord_lt f i h2
/-- The first i are in order, the others where they were. -/
def srt (f : Nat → Int) (i t : Nat) : Nat := if t < i then ordAt f i t else t
/-- The train i stands at place j on its way to the left. -/
def mid (f : Nat → Int) (i j t : Nat) : Nat := if t < j then ordAt f i t else if t = j then i else if t ≤ i then ordAt f i (t - 1) else t
theorem srt_one (f : Nat → Int) (t : Nat) : srt f 1 t = t := by
  unfold srt
  split
  · rename_i h
    obtain rfl : t = 0 := by omega
    rfl
  · rfl
theorem srt_zero (f : Nat → Int) (t : Nat) : srt f 0 t = t := by unfold srt; rw [if_neg (by omega)]
theorem mid_start (f : Nat → Int) (i t : Nat) : mid f i i t = srt f i t := by
  unfold mid srt
  split
  · rfl
  · split
    · omega
    · split
      · omega
      · rfl
theorem mid_at (f : Nat → Int) (i j : Nat) : mid f i j j = i := by unfold mid; rw [if_neg (by omega), if_pos rfl]
theorem mid_left (f : Nat → Int) (i q : Nat) : mid f i (q + 1) q = ordAt f i q := by unfold mid; rw [if_pos (by omega)]
/-- An exchange. -/
theorem mid_swap {f : Nat → Int} {i q : Nat} (hq : q < i) (t : Nat) : (if t = q then i else if t = q + 1 then ordAt f i q else mid f i (q + 1) t) = mid f i q t := by
  unfold mid
  by_cases h1 : t = q
  · subst h1; rw [if_pos rfl, if_neg (by omega), if_pos rfl]
  · rw [if_neg h1]
    by_cases h2 : t = q + 1
    · subst h2; rw [if_pos rfl, if_neg (by omega), if_neg (by omega), if_pos (by omega)]; rfl
    · rw [if_neg h2]
      by_cases h3 : t < q
      · rw [if_pos (by omega), if_pos h3]
      · rw [if_neg (by omega), if_neg h2, if_neg h3, if_neg h1]
theorem ord_mono (f : Nat → Int) (i : Nat) {p q : Nat} (h : p < q) (hq : q < i) : f (ordAt f i p) ≤ f (ordAt f i q) := by
  have hl := ord_len f i
  rw [ordAt_eq (by omega), ordAt_eq (by omega)]
  exact (List.pairwise_iff_getElem.1 (ord_sorted f i)) p q (by omega) (by omega) h
/-- The train is at its place. -/
theorem mid_end {f : Nat → Int} {i j : Nat} (hj : j ≤ i) (h1 : ∀ q, q < j → f (ordAt f i q) < f i) (h2 : j < i → f i < f (ordAt f i j)) (t : Nat) : mid f i j t = srt f (i + 1) t := by
  have hl := ord_len f i
  have e : ordN f (i + 1) = (ordN f i).take j ++ i :: (ordN f i).drop j := ins_at f i (ordN f i) j (by omega) (fun q hq hqj => by have := h1 q hqj; rwa [ordAt_eq hq] at this) (fun hp => by have := h2 (by omega); rw [ordAt_eq hp] at this; omega)
  unfold mid srt
  by_cases a : t < j
  · rw [if_pos a, if_pos (by omega)]
    unfold ordAt
    rw [e, List.getD_eq_getElem?_getD, List.getD_eq_getElem?_getD, List.getElem?_append_left (by rw [List.length_take]; omega), List.getElem?_take_of_lt a]
  · rw [if_neg a]
    by_cases b : t = j
    · subst b
      rw [if_pos rfl, if_pos (by omega)]
      unfold ordAt
      rw [e, List.getD_eq_getElem?_getD, List.getElem?_append_right (by rw [List.length_take]; omega), List.length_take, Nat.min_eq_left (by omega)]
      simp
    · rw [if_neg b]
      by_cases c : t ≤ i
      · rw [if_pos c, if_pos (by omega)]
        unfold ordAt
        rw [e, List.getD_eq_getElem?_getD, List.getD_eq_getElem?_getD, List.getElem?_append_right (by rw [List.length_take]; omega), List.length_take, Nat.min_eq_left (by omega)]
        obtain ⟨s, rfl⟩ : ∃ s, t = j + 1 + s := ⟨t - j - 1, by omega⟩
        rw [show j + 1 + s - j = s + 1 by omega, List.getElem?_cons_succ, List.getElem?_drop, show j + 1 + s - 1 = j + s by omega]
      · rw [if_neg c, if_neg (by omega)]
/-- The same, where the trains enter at different times. -/
theorem mid_end' {f : Nat → Int} {m i j : Nat} (hd : ∀ a b, a < m → b < m → a ≠ b → f a ≠ f b) (him : i < m) (hj : j ≤ i) (h1 : ∀ q, q + 1 = j → ¬ f i < f (ordAt f i q)) (h2 : ∀ q, j ≤ q → q < i → f i < f (ordAt f i q)) (t : Nat) : mid f i j t = srt f (i + 1) t := by
  refine mid_end hj (fun q hq => ?_) (fun h => h2 j (Nat.le_refl _) h) t
  obtain ⟨p, rfl⟩ : ∃ p, j = p + 1 := ⟨j - 1, by omega⟩
  have a := h1 p rfl
  have lt := ordAt_lt (f := f) (i := i) (t := p) (by omega)
  have ne := hd i (ordAt f i p) him (by omega) (by omega)
  by_cases e : q = p
  · subst e; omega
  · have := ord_mono f i (p := q) (q := p) (by omega) (by omega); omega
end Go.Proofs.Ytjppkcfbhhjniaa

/-
  Plain: a section whose trains don't meet: their order, the gaps between them, how busy it is.
-/
namespace Go.Proofs.Ytjppkcfbhhjniaa
open Go.RowKit
set_option linter.unusedVariables false

/-- Times of m trains in a section: they enter (f), they leave (g), no two are in at once. -/
structure Sec (f g : Nat → Int) (m : Nat) : Prop where
  pos : ∀ i, i < m → 0 ≤ f i ∧ f i < g i ∧ g i ≤ 2000
  dis : ∀ i j, i < m → j < m → i ≠ j → g i ≤ f j ∨ g j ≤ f i
theorem clashT_mem {a b : PD} {k : Nat} (h : clash a b k = true) : ∀ m, k < m → clashT a b m ≠ [] := by
  intro m
  induction m with
  | zero => intro hk; omega
  | succ m ih =>
    intro hk
    rw [clashT_succ]
    by_cases e : k = m
    · subst e; rw [if_pos h]; simp
    · intro h0; exact ih (by omega) (List.append_eq_nil_iff.1 h0).1
theorem firstV_apart {n : Int} {D : Nat → PD} {m : Nat} (h : firstV n D m) {i j k : Nat} (hi : i < m) (hj : j < i) (hk : (k : Int) < n) : clash (D j) (D i) k = false := by
  obtain ⟨h1, h2⟩ := h i hi
  have h3 := (h j (by omega)).1
  have h4 := h2 j hj
  rw [clashL_yes h3 h1] at h4
  cases hc : clash (D j) (D i) k
  · rfl
  · exact absurd h4 (clashT_mem hc _ (by omega))
theorem sec_of {n : Int} {D : Nat → PD} {m k : Nat} (h : pathsV n D m = true) (hk : (k : Int) < n) : Sec (fun i => (D i).f1 k) (fun i => (D i).f2 k) m := by
  obtain ⟨h1, h2, h3, hF⟩ := pathsV_iff.1 h
  have key : ∀ i j, i < m → j < i → (D i).f2 k ≤ (D j).f1 k ∨ (D j).f2 k ≤ (D i).f1 k := by
    intro i j hi hj
    have := firstV_apart hF hi hj hk
    unfold clash at this
    rw [Bool.and_eq_false_iff, decide_eq_false_iff_not, decide_eq_false_iff_not] at this
    omega
  refine ⟨fun i hi => pathV_times (hF i hi).1 hk, fun i j hi hj hne => ?_⟩
  rcases Nat.lt_or_ge j i with h | h
  · exact key i j hi h
  · have := key j i hj (by omega); omega
section
variable {f g : Nat → Int} {m : Nat}
theorem Sec.ne (h : Sec f g m) : ∀ a b, a < m → b < m → a ≠ b → f a ≠ f b := fun a b ha hb hne e => by
  have h1 := h.pos a ha
  have h2 := h.pos b hb
  rcases h.dis a b ha hb hne with h3 | h3 <;> omega
theorem Sec.less (h : Sec f g m) {n : Nat} (hn : n ≤ m) : Sec f g n := ⟨fun i hi => h.pos i (by omega), fun i j hi hj => h.dis i j (by omega) (by omega)⟩
theorem ins_nodup (f : Nat → Int) (x : Nat) (l : List Nat) (h : l.Nodup) (hx : x ∉ l) : (ins f x l).Nodup := by
  induction l with
  | nil => simp [ins]
  | cons y r ih =>
    rw [List.nodup_cons] at h
    simp only [List.mem_cons, not_or] at hx
    simp only [ins]
    split
    · rw [List.nodup_cons]
      refine ⟨fun hy => ?_, ih h.2 hx.2⟩
      rcases (ins_mem f x y r).1 hy with e | e
      · exact hx.1 e.symm
      · exact h.1 e
    · rw [List.nodup_cons]
      exact ⟨by simp only [List.mem_cons, not_or]; exact hx, List.nodup_cons.2 h⟩
theorem ord_nodup (f : Nat → Int) (i : Nat) : (ordN f i).Nodup := by
  induction i with
  | zero => simp [ordN]
  | succ i ih => exact ins_nodup f i _ ih (fun h => by have := (ord_mem f i i).1 h; omega)
theorem ordAt_inj (f : Nat → Int) {i p q : Nat} (hp : p < i) (hq : q < i) (h : ordAt f i p = ordAt f i q) : p = q := by
  have hl := ord_len f i
  rw [ordAt_eq (by omega), ordAt_eq (by omega)] at h
  have hn := List.pairwise_iff_getElem.1 (ord_nodup f i)
  rcases Nat.lt_trichotomy p q with a | a | a
  · exact absurd h (hn p q (by omega) (by omega) a)
  · exact a
  · exact absurd h.symm (hn q p (by omega) (by omega) a)
theorem ordAt_ex (f : Nat → Int) {i x : Nat} (hx : x < i) : ∃ p, p < i ∧ ordAt f i p = x := by
  obtain ⟨p, hp, e⟩ := List.getElem_of_mem ((ord_mem f i x).2 hx)
  exact ⟨p, by rw [ord_len] at hp; exact hp, by rw [ordAt_eq hp]; exact e⟩
/-- One train is in a section at a time. -/
theorem Sec.step (h : Sec f g m) {p q : Nat} (hp : p < q) (hq : q < m) : g (ordAt f m p) ≤ f (ordAt f m q) := by
  have a := ordAt_lt (f := f) (i := m) (t := p) (by omega)
  have b := ordAt_lt (f := f) (i := m) (t := q) hq
  have ne : ordAt f m p ≠ ordAt f m q := fun e => by have := ordAt_inj f (by omega) hq e; omega
  have h1 := h.pos _ a
  have h2 := h.pos _ b
  have h3 := ord_mono f m hp hq
  rcases h.dis _ _ a b ne with h4 | h4 <;> omega
/-- The least of the first t gaps. -/
def gapT (f g : Nat → Int) (m : Nat) : Nat → Int
  | 0 => 2000
  | t + 1 => min (gapT f g m t) (f (ordAt f m (t + 1)) - g (ordAt f m t))
theorem gapT_le (f g : Nat → Int) (m : Nat) {t p : Nat} (hp : p < t) : gapT f g m t ≤ f (ordAt f m (p + 1)) - g (ordAt f m p) := by
  induction t with
  | zero => omega
  | succ t ih =>
    rw [gapT]
    by_cases e : p = t
    · subst e; exact Int.min_le_right _ _
    · exact Int.le_trans (Int.min_le_left _ _) (ih (by omega))
theorem gapT_is (f g : Nat → Int) (m : Nat) (t : Nat) : gapT f g m t = 2000 ∨ ∃ p, p < t ∧ gapT f g m t = f (ordAt f m (p + 1)) - g (ordAt f m p) := by
  induction t with
  | zero => exact .inl rfl
  | succ t ih =>
    rw [gapT]
    rcases Int.le_total (gapT f g m t) (f (ordAt f m (t + 1)) - g (ordAt f m t)) with h | h
    · rw [Int.min_eq_left h]
      rcases ih with h1 | ⟨p, hp, e⟩
      · exact .inl h1
      · exact .inr ⟨p, by omega, e⟩
    · rw [Int.min_eq_right h]; exact .inr ⟨t, by omega, rfl⟩
theorem Sec.gap_bd (h : Sec f g m) {t : Nat} (ht : t < m) : 0 ≤ gapT f g m t ∧ gapT f g m t ≤ 2000 := by
  induction t with
  | zero => simp [gapT]
  | succ t ih =>
    have h1 := ih (by omega)
    have h2 := h.step (p := t) (q := t + 1) (by omega) ht
    rw [gapT]
    omega
/-- No two trains are nearer than the gap. -/
theorem Sec.gap_low (h : Sec f g m) {i j : Nat} (hi : i < m) (hj : j < m) (hne : i ≠ j) (hd : 0 ≤ f i - g j) : gapT f g m (m - 1) ≤ f i - g j := by
  obtain ⟨p, hp, rfl⟩ := ordAt_ex f hi
  obtain ⟨q, hq, rfl⟩ := ordAt_ex f hj
  have hqp : q < p := by
    rcases Nat.lt_trichotomy q p with a | a | a
    · exact a
    · subst a; exact absurd rfl hne
    · have h1 := h.step a hq
      have h2 := h.pos _ hi
      have h3 := h.pos _ hj
      omega
  obtain ⟨s, rfl⟩ : ∃ s, p = s + 1 := ⟨p - 1, by omega⟩
  have h1 := gapT_le f g m (t := m - 1) (p := s) (by omega)
  have h2 : g (ordAt f m q) ≤ g (ordAt f m s) := by
    by_cases e : q = s
    · subst e; exact Int.le_refl _
    · have h3 := h.step (p := q) (q := s) (by omega) (by omega)
      have h4 := h.pos (ordAt f m s) (ordAt_lt (by omega))
      omega
  omega
/-- Two trains have the gap. -/
theorem Sec.gap_hit (h : Sec f g m) (hm : 2 ≤ m) : ∃ i j, i < m ∧ j < m ∧ i ≠ j ∧ f i - g j = gapT f g m (m - 1) := by
  rcases gapT_is f g m (m - 1) with e | ⟨p, hp, e⟩
  · exfalso
    have h1 := gapT_le f g m (t := m - 1) (p := 0) (by omega)
    have h2 := h.pos (ordAt f m (0 + 1)) (ordAt_lt (by omega))
    have h3 := h.pos (ordAt f m 0) (ordAt_lt (by omega))
    omega
  · refine ⟨ordAt f m (p + 1), ordAt f m p, ordAt_lt (by omega), ordAt_lt (by omega), fun x => ?_, e.symm⟩
    have := ordAt_inj f (i := m) (by omega) (by omega) x
    omega
/-- Times in the section, place by place. -/
def spans (f g : Nat → Int) (m : Nat) : Nat → Int
  | 0 => 0
  | t + 1 => spans f g m t + (g (ordAt f m t) - f (ordAt f m t))
theorem Sec.spans_le (h : Sec f g m) {t : Nat} (ht : t < m) (G : Int) (hG : ∀ p, p < t → G ≤ f (ordAt f m (p + 1)) - g (ordAt f m p)) : spans f g m (t + 1) + G * t ≤ g (ordAt f m t) - f (ordAt f m 0) := by
  induction t with
  | zero => simp [spans]
  | succ t ih =>
    have h1 := ih (by omega) (fun p hp => hG p (by omega))
    have h2 := hG t (by omega)
    have e : spans f g m (t + 1 + 1) = spans f g m (t + 1) + (g (ordAt f m (t + 1)) - f (ordAt f m (t + 1))) := rfl
    have e2 : G * ((t + 1 : Nat) : Int) = G * (t : Int) + G := by rw [Int.natCast_add, Int.mul_add]; simp
    rw [e, e2]
    omega
theorem ins_sum (f h : Nat → Int) (x : Nat) (l : List Nat) : ((ins f x l).map h).sum = h x + (l.map h).sum := by
  induction l with
  | nil => simp [ins]
  | cons y r ih =>
    simp only [ins]
    split
    · simp only [List.map_cons, List.sum_cons, ih]; omega
    · simp
theorem spans_take (f g : Nat → Int) (m : Nat) : ∀ t, t ≤ m → spans f g m t = (((ordN f m).take t).map fun x => g x - f x).sum := by
  intro t
  induction t with
  | zero => intro _; simp [spans]
  | succ t ih =>
    intro ht
    have hl := ord_len f m
    rw [spans, ih (by omega), List.take_succ_eq_append_getElem (by omega), List.map_append, List.sum_append, ordAt_eq (by omega)]
    simp
theorem spans_all (f g : Nat → Int) (m : Nat) : spans f g m m = ((ordN f m).map fun x => g x - f x).sum := by
  rw [spans_take f g m m (Nat.le_refl _), List.take_of_length_le (by rw [ord_len]; exact Nat.le_refl _)]
end
/-- Does a train come ahead of another one in the order? -/
theorem ord_congr {f g : Nat → Int} (m : Nat) (h : ∀ i j, i < m → j < i → (f j < f i ↔ g j < g i)) : ordN f m = ordN g m := by
  have key : ∀ (x : Nat) (l : List Nat), (∀ y ∈ l, (f y < f x ↔ g y < g x)) → ins f x l = ins g x l := by
    intro x l
    induction l with
    | nil => intro _; rfl
    | cons y r ih =>
      intro hl
      simp only [ins]
      have h1 := hl y (by simp)
      rw [ih (fun z hz => hl z (by simp [hz]))]
      by_cases hh : f y < f x
      · rw [if_pos hh, if_pos (h1.1 hh)]
      · rw [if_neg hh, if_neg (fun k => hh (h1.2 k))]
  induction m with
  | zero => rfl
  | succ m ih =>
    rw [ordN, ordN, ← ih (fun i j hi hj => h i j (by omega) hj)]
    exact key m _ fun y hy => h m y (by omega) ((ord_mem f m y).1 hy)
theorem ord_lt_iff {f : Nat → Int} {m : Nat} (hd : ∀ a b, a < m → b < m → a ≠ b → f a ≠ f b) {p q : Nat} (hp : p < m) (hq : q < m) : f (ordAt f m p) < f (ordAt f m q) ↔ p < q := by
  constructor
  · intro h
    rcases Nat.lt_trichotomy p q with a | a | a
    · exact a
    · subst a; omega
    · have := ord_mono f m a hp; omega
  · intro h
    have h1 := ord_mono f m h hq
    have h2 := hd _ _ (ordAt_lt (f := f) hp) (ordAt_lt (f := f) hq) (fun e => by have := ordAt_inj f hp hq e; omega)
    omega
/-- The order tells who comes first. -/
theorem lt_of_ord {f g : Nat → Int} {m : Nat} (hf : ∀ a b, a < m → b < m → a ≠ b → f a ≠ f b) (hg : ∀ a b, a < m → b < m → a ≠ b → g a ≠ g b) (h : ordN f m = ordN g m) {i j : Nat} (hi : i < m) (hj : j < m) : f i < f j ↔ g i < g j := by
  obtain ⟨p, hp, rfl⟩ := ordAt_ex f hi
  obtain ⟨q, hq, rfl⟩ := ordAt_ex f hj
  rw [ord_lt_iff hf hp hq]
  have e : ∀ t, ordAt f m t = ordAt g m t := fun t => by unfold ordAt; rw [h]
  rw [e p, e q, ord_lt_iff hg hp hq]
end Go.Proofs.Ytjppkcfbhhjniaa

/-
  Plain functions on lists of bytes and numbers, beside the chapter on tokens and staffs, and their laws. No program in sight.
-/
namespace Go.Proofs.Ytjppkcfbhhjniaa
open Go.RowKit

theorem ret_int {k : IntKind} {a b : Int} (h : a = b) : Ending.returned (.int k a) = .returned (.int k b) := by rw [h]
theorem ret_bool {a b : Bool} (h : a = b) : Ending.returned (.bool a) = .returned (.bool b) := by rw [h]
theorem hide {p : Prop} (h : p) : Hid p := h

/-- A byte that is U or D. -/
def isUD (c : UInt8) : Bool := c == 85 || c == 68
/-- A text that are directions. -/
def dirsV (l : List UInt8) : Bool := decide (l.length ≤ 30) && l.all isUD

theorem take_snoc (s : ByteArray) (k : Nat) (h : k < s.size) : s.data.toList.take (k + 1) = s.data.toList.take k ++ [s[k]] := by
  rw [List.take_succ_eq_append_getElem (by simpa using h)]; rfl
theorem take_all (s : ByteArray) : s.data.toList.take s.size = s.data.toList := List.take_of_length_le (by simp)

theorem isUD_iff (c : UInt8) : isUD c = true ↔ ((c.toNat : Int) = 85 ∨ (c.toNat : Int) = 68) := by
  unfold isUD
  simp only [Bool.or_eq_true, beq_iff_eq, ← UInt8.toNat_inj, UInt8.reduceToNat]
  omega
theorem isUD_no (c : UInt8) (h : ¬ ((c.toNat : Int) = 85 ∨ (c.toNat : Int) = 68)) : isUD c = false := by
  rw [← isUD_iff] at h; simpa using h
theorem mem_at {s : ByteArray} {k : Nat} (h : k < s.size) : s[k] ∈ s.data.toList := by
  have : s[k] = s.data.toList[k]'(by simpa using h) := rfl
  rw [this]; exact List.getElem_mem _
theorem ud_step {s : ByteArray} {k : Nat} (h : k < s.size) (hU : Hid ((s.data.toList.take k).all isUD = true)) (hc : (s[k].toNat : Int) = 85 ∨ (s[k].toNat : Int) = 68) : Hid ((s.data.toList.take (k + 1)).all isUD = true) := by
  rw [take_snoc s k h]
  have h1 : (s.data.toList.take k).all isUD = true := hU
  have h2 := (isUD_iff s[k]).2 hc
  simp only [Hid, List.all_append, h1, List.all_cons, h2, List.all_nil, Bool.and_self]
theorem ud_no {s : ByteArray} {k : Nat} (h : k < s.size) (hc : ¬ ((s[k].toNat : Int) = 85 ∨ (s[k].toNat : Int) = 68)) : dirsV s.data.toList = false := by
  unfold dirsV
  rw [Bool.and_eq_false_iff]; right
  rw [List.all_eq_false]
  exact ⟨_, mem_at h, by simp [isUD_no _ hc]⟩
theorem ud_all {s : ByteArray} (hU : Hid ((s.data.toList.take s.size).all isUD = true)) : dirsV s.data.toList = decide ((s.size : Int) ≤ 30) := by
  have h1 : (s.data.toList.take s.size).all isUD = true := hU
  rw [take_all] at h1
  unfold dirsV
  rw [h1, Bool.and_true]
  have : s.data.toList.length = s.size := by simp
  rw [this]; congr 1; simp; omega
theorem ud_long {s : ByteArray} (h : 30 < s.size) : dirsV s.data.toList = false := by
  unfold dirsV
  have : s.data.toList.length = s.size := by simp
  rw [this]; simp; omega
theorem dirs_len {s : ByteArray} (h : dirsV s.data.toList = true) : s.size ≤ 30 := by
  unfold dirsV at h
  have : s.data.toList.length = s.size := by simp
  rw [this] at h; simp at h; omega
theorem dirs_at {s : ByteArray} (h : dirsV s.data.toList = true) {k : Nat} (hk : k < s.size) : (s[k].toNat : Int) = 85 ∨ (s[k].toNat : Int) = 68 := by
  unfold dirsV at h
  simp only [Bool.and_eq_true, List.all_eq_true] at h
  exact (isUD_iff _).1 (h.2 _ (mem_at hk))

/-- How often the letter changes. -/
def chg : List UInt8 → Nat
  | a :: b :: r => (if a = b then 0 else 1) + chg (b :: r)
  | _ => 0
theorem chg_snoc (l : List UInt8) (a b : UInt8) : chg (l ++ [a, b]) = chg (l ++ [a]) + if a = b then 0 else 1 := by
  induction l with
  | nil => simp [chg]
  | cons x t ih =>
    cases t with
    | nil => simp [chg]
    | cons y t => simp only [List.cons_append, chg] at ih ⊢; rw [ih]; omega
theorem chg_le (l : List UInt8) : chg l ≤ l.length := by
  induction l with
  | nil => simp [chg]
  | cons x t ih =>
    cases t with
    | nil => simp [chg]
    | cons y t => simp only [chg, List.length_cons] at ih ⊢; split <;> omega
theorem chg_take (s : ByteArray) (k : Nat) (h : k + 1 < s.size) : chg (s.data.toList.take (k + 2)) = chg (s.data.toList.take (k + 1)) + if s[k] = s[k + 1] then 0 else 1 := by
  rw [take_snoc s (k + 1) h, take_snoc s k (by omega), List.append_assoc]
  exact chg_snoc _ _ _
theorem chg_all (s : ByteArray) (k : Nat) (h : s.size ≤ k) : chg (s.data.toList.take k) = chg s.data.toList := by
  rw [List.take_of_length_le (by simpa using h)]
/-- DirectionsChanges. -/
def chgZ (l : List UInt8) : Int := if dirsV l = true then (chg l : Int) else -1
theorem chgZ_yes {l : List UInt8} (h : dirsV l = true) : chgZ l = chg l := if_pos h
theorem chgZ_no {l : List UInt8} (h : dirsV l = false) : chgZ l = -1 := if_neg (by simp [h])
theorem chg_none (l : List UInt8) : chg (l.take 1) = 0 := by
  cases l <;> simp [chg]
theorem byte_eq {a b : UInt8} (h : a = b) : ((a.toNat : Int) != (b.toNat : Int)) = false := by subst h; simp
theorem byte_ne {a b : UInt8} (h : ¬ a = b) : ((a.toNat : Int) != (b.toNat : Int)) = true := by
  rw [bne_iff_ne]; intro e; apply h; rw [← UInt8.toNat_inj]; omega
end Go.Proofs.Ytjppkcfbhhjniaa

/-
  Words for memory: a block known whole; how it stands behind new blocks, draws, stores, calls.
-/
namespace Go.Proofs.Ytjppkcfbhhjniaa
open Go.RowKit Go.Deep

/-- Block B holds these cells; none is frozen. -/
def Bx (w : World) (B : Nat) (l : List Value) : Prop := ∃ T, w.heap[B]? = some (.cells l.toArray T (0, 0))
section
variable {w w' : World} {B N : Nat} {l : List Value}
theorem Bx.lt (h : Bx w B l) : B < w.heap.size := by obtain ⟨T, h⟩ := h; exact lt_of_block h
theorem Bx.cell (h : Bx w B l) {i : Nat} (hi : i < l.length) : w.cell? ⟨B, i, none⟩ = some l[i] := by
  obtain ⟨T, h⟩ := h
  simp [World.cell?, h, hi]
theorem Bx.frz (h : Bx w B l) (i : Nat) : w.frozen? ⟨B, i, none⟩ = false := by
  obtain ⟨T, h⟩ := h
  simp [World.frozen?, h]
theorem Bx.of (h : Bx w B l) (e : w'.heap[B]? = w.heap[B]?) : Bx w' B l := by
  obtain ⟨T, h⟩ := h
  exact ⟨T, e.trans h⟩
theorem Bx.alloc (h : Bx w B l) (o : Obj) : Bx (w.alloc o) B l := h.of (blk_alloc_lt _ _ _ h.lt)
theorem Bx.drew (h : Bx w B l) : Bx w.drew B l := h
theorem Bx.below (h : Bx w B l) (hb : Below N w w') (hB : B < N) : Bx w' B l := h.of (hb.block B hB)
theorem Bx.call (h : Bx w B l) (hb : Below w.heap.size w w') : Bx w' B l := h.below hb h.lt
theorem Bx.other (h : Bx w B l) {a : Addr} (ha : B ≠ a.block) (v : Value) : Bx (w.setCell a v) B l := h.of (blk_setCell_other _ _ _ _ ha)
theorem Bx.set (h : Bx w B l) (i : Nat) (v : Value) : Bx (w.setCell ⟨B, i, none⟩ v) B (l.set i v) := by
  have hlt := h.lt
  obtain ⟨T, h⟩ := h
  refine ⟨T, ?_⟩
  have h' : w.heap[B] = .cells l.toArray T (0, 0) := by simpa [Array.getElem?_eq_getElem hlt] using h
  show (w.heap.modify B _)[B]? = _
  rw [Array.getElem?_eq_getElem (by simpa using hlt), Array.getElem_modify_self, h']
  simp
theorem Bx.new (w : World) (l : List Value) (T : TypeId) : Bx (w.alloc (.cells l.toArray T)) w.heap.size l := ⟨T, blk_alloc_new _ _⟩
/-- Three cells. -/
theorem Bx.three {x y z : Value} (h : Bx w B [x, y, z]) : (w.cell? ⟨B, 0, none⟩ = some x ∧ w.cell? ⟨B, 1, none⟩ = some y ∧ w.cell? ⟨B, 2, none⟩ = some z) ∧ (w.frozen? ⟨B, 0, none⟩ = false ∧ w.frozen? ⟨B, 1, none⟩ = false ∧ w.frozen? ⟨B, 2, none⟩ = false) :=
  ⟨⟨h.cell (i := 0) (by simp), h.cell (i := 1) (by simp), h.cell (i := 2) (by simp)⟩, h.frz 0, h.frz 1, h.frz 2⟩
theorem Bx.set3 {x y z x' y' z' : Value} (h : Bx w B [x, y, z]) : Bx (((w.setCell ⟨B, 0, none⟩ x').setCell ⟨B, 1, none⟩ y').setCell ⟨B, 2, none⟩ z') B [x', y', z'] :=
  ((h.set 0 x').set 1 y').set 2 z'
theorem Bx.other3 (h : Bx w B l) {C : Nat} (hC : B ≠ C) (x y z : Value) : Bx (((w.setCell ⟨C, 0, none⟩ x).setCell ⟨C, 1, none⟩ y).setCell ⟨C, 2, none⟩ z) B l :=
  ((h.other (a := ⟨C, 0, none⟩) hC x).other (a := ⟨C, 1, none⟩) hC y).other (a := ⟨C, 2, none⟩) hC z
end
end Go.Proofs.Ytjppkcfbhhjniaa

/-
  Words for the reader of a code: what it holds, how it stands behind new blocks, stores and calls.
-/
namespace Go.Proofs.Ytjppkcfbhhjniaa
open Go.RowKit Go.Deep

/-- The bytes that a reader reads lie below block B. -/
def BytesAt (B : Nat) (w : World) (A : Option Addr) (n : Nat) : Prop :=
  0 < n → ∃ b off, A = some ⟨b, off, none⟩ ∧ b < B ∧ ∀ i, i < n → ∃ v : Nat, v < 256 ∧ w.cell? ⟨b, off + i, none⟩ = some (.int .u8 (v : Int))
/-- The reader in block R: p places have been read. -/
def Rd (B : Nat) (w : World) (R p : Nat) : Prop := ∃ A n c, Bx w R [.slice A n c, .int .i64 (p : Int)] ∧ n ≤ 2000 ∧ BytesAt B w A n ∧ B ≤ R
section
variable {B R S p n : Nat} {w w' w0 : World} {A : Option Addr}
theorem BytesAt.keep (h : BytesAt B w A n) (hk : ∀ k, k < B → w'.heap[k]? = w.heap[k]?) : BytesAt B w' A n := fun hn => by
  obtain ⟨b, off, e, hb, hc⟩ := h hn
  exact ⟨b, off, e, hb, fun i hi => by
    obtain ⟨v, hv, hcc⟩ := hc i hi
    exact ⟨v, hv, (World.cell?_of_block (a := ⟨b, off + i, none⟩) (hk b hb)).trans hcc⟩⟩
theorem BytesAt.less (h : BytesAt B w A n) {m : Nat} (hm : m ≤ n) : BytesAt B w A m := fun hn => by
  obtain ⟨b, off, e, hb, hc⟩ := h (by omega)
  exact ⟨b, off, e, hb, fun i hi => hc i (by omega)⟩
theorem Rd.lt (h : Rd B w R p) : R < w.heap.size := by obtain ⟨_, _, _, hx, _⟩ := h; exact hx.lt
theorem Rd.base (h : Rd B w R p) : B ≤ R := by obtain ⟨_, _, _, _, _, _, hB⟩ := h; exact hB
theorem Rd.of (h : Rd B w R p) (hR : w'.heap[R]? = w.heap[R]?) (hk : ∀ k, k < B → w'.heap[k]? = w.heap[k]?) : Rd B w' R p := by
  obtain ⟨A, n, c, hx, hn, hb, hB⟩ := h
  exact ⟨A, n, c, hx.of hR, hn, hb.keep hk, hB⟩
theorem Rd.alloc (h : Rd B w R p) (o : Obj) : Rd B (w.alloc o) R p :=
  h.of (blk_alloc_lt _ _ _ h.lt) (fun k hk => blk_alloc_lt _ _ _ (by have := h.lt; have := h.base; omega))
theorem Rd.drew (h : Rd B w R p) : Rd B w.drew R p := h
theorem Rd.drewN (h : Rd B w R p) (q : Nat) : Rd B (w.drewN q) R p := h
theorem Rd.other (h : Rd B w R p) {a : Addr} (h1 : R ≠ a.block) (h2 : B ≤ a.block) (v : Value) : Rd B (w.setCell a v) R p :=
  h.of (blk_setCell_other _ _ _ _ h1) (fun k hk => blk_setCell_other _ _ _ _ (by omega))
theorem Rd.call (h : Rd B w R p) (hb : Below w.heap.size w w') : Rd B w' R p :=
  h.of (hb.block R h.lt) (fun k hk => hb.block k (by have := h.lt; have := h.base; omega))
theorem Bx.grown {l : List Value} {K : Nat} (h : Bx w K l) {row : Option Nat} (hg : w.grownBy w' row) (hne : some K ≠ row) : Bx w' K l := h.of (hg.block K h.lt hne)
theorem gb_bl (h : Below B w0 w) (hB : B ≤ w.heap.size) (hR : B ≤ R) (hg : w.grownBy w' (some R)) : Below B w0 w' := h.grown hg hB (fun k e => by injection e with e; omega)
theorem gb_trans {a b c : World} (h : a.grownBy b (some R)) (k : b.grownBy c (some R)) : a.grownBy c (some R) :=
  ⟨k.os.trans h.os, k.tape.trans h.tape, k.output.trans h.output, Nat.le_trans h.size k.size, fun i hi hne => (k.block i (Nat.lt_of_lt_of_le hi h.size) hne).trans (h.block i hi hne)⟩
theorem gb_refl (w : World) (row : Option Nat) : w.grownBy w row := ⟨rfl, rfl, rfl, Nat.le_refl _, fun _ _ _ => rfl⟩
theorem gb_below {a b c : World} {row : Option Nat} (h : a.grownBy b row) (k : Below b.heap.size b c) : a.grownBy c row :=
  ⟨k.os.trans h.os, k.tape.trans h.tape, k.output.trans h.output, Nat.le_trans h.size k.size, fun i hi hne => (k.block i (Nat.lt_of_lt_of_le hi h.size)).trans (h.block i hi hne)⟩
theorem gb_alloc {a b : World} {row : Option Nat} (h : a.grownBy b row) (o : Obj) : a.grownBy (b.alloc o) row :=
  ⟨h.os, h.tape, h.output, Nat.le_trans h.size (by simp), fun i hi hne => (blk_alloc_lt _ _ _ (Nat.lt_of_lt_of_le hi h.size)).trans (h.block i hi hne)⟩
theorem gb_drew {a b : World} {row : Option Nat} (h : a.grownBy b row) : a.grownBy b.drew row := ⟨h.os, h.tape, h.output, h.size, h.block⟩
theorem gb_drewN {a b : World} {row : Option Nat} (h : a.grownBy b row) (q : Nat) : a.grownBy (b.drewN q) row := ⟨h.os, h.tape, h.output, h.size, h.block⟩
/-- A store into the reader, or into a block that is new since a. -/
theorem gb_setCell {a b : World} (h : a.grownBy b (some R)) {q : Addr} (hq : q.block = R ∨ a.heap.size ≤ q.block) (u : Value) : a.grownBy (b.setCell q u) (some R) :=
  ⟨h.os, h.tape, h.output, by simpa [World.setCell] using h.size, fun i hi hne => (blk_setCell_other _ _ _ _ (by
    rcases hq with hq | hq
    · exact fun e => hne (by rw [e, hq])
    · omega)).trans (h.block i hi hne)⟩
theorem Rd.step {A : Option Addr} {n c : Nat} (h : Bx w R [.slice A n c, .int .i64 (p : Int)]) (hn : n ≤ 2000) (hb : BytesAt B w A n) (hB : B ≤ R) {q : Nat} : Rd B (w.setCell ⟨R, 1, none⟩ (.int .i64 (q : Int))) R q :=
  ⟨A, n, c, h.set 1 _, hn, hb.keep (fun k hk => blk_setCell_other _ _ _ _ (by simp; omega)), hB⟩
end
theorem tmod_bd {x n : Int} (h : 0 ≤ x) (hn : 1 ≤ n) : 0 ≤ x.tmod n ∧ x.tmod n < n := by
  rw [Int.tmod_eq_emod_of_nonneg h]
  exact ⟨Int.emod_nonneg _ (by omega), Int.emod_lt_of_pos _ (by omega)⟩
theorem ofInt_i64 (a : Nat) (ha : a < 9223372036854775808) : (BitVec.ofInt 64 (a : Int)).toNat = a := by
  rw [BitVec.ofInt_natCast, BitVec.toNat_ofNat]; exact Nat.mod_eq_of_lt (by omega)
theorem xor_nonneg (x y : Int) (hx : 0 ≤ x) (hy : 0 ≤ y) (hx2 : x < 9223372036854775808) (hy2 : y < 9223372036854775808) : 0 ≤ bits .xor .i64 x y := by
  obtain ⟨a, rfl⟩ := Int.eq_ofNat_of_zero_le hx
  obtain ⟨b, rfl⟩ := Int.eq_ofNat_of_zero_le hy
  have hz : a ^^^ b < 2 ^ 63 := Nat.xor_lt_two_pow (by omega) (by omega)
  show 0 ≤ IntKind.i64.wrap ((BitVec.ofInt 64 (a : Int) ^^^ BitVec.ofInt 64 (b : Int)).toNat : Int)
  rw [BitVec.toNat_xor, ofInt_i64 a (by omega), ofInt_i64 b (by omega), IntKind.wrap_i64]
  omega
/-- What the frame of a law tells of a slice of numbers that came in. -/
def IsRow (k : IntKind) (w : World) (a : Option Addr) (len cap : Nat) (zs : List Int) : Prop :=
  (a = none ∧ len = 0 ∧ cap = 0 ∧ zs = []) ∨
  ∃ x, a = some x ∧ len ≤ cap ∧ cap ≤ maxLen ∧ zs.length = cap ∧ (∀ i, i < zs.length → w.cell? (x.add i) = some (.int k (zs.getD i 0))) ∧ ∀ n ∈ zs, (Lit.int k n).wf = true
theorem IsRow.bytes {w : World} {a : Option Addr} {len cap : Nat} {zs : List Int} (h : IsRow .u8 w a len cap zs) : BytesAt w.heap.size w a len ∧ len ≤ cap ∧ cap ≤ 9223372036854775807 := by
  rcases h with ⟨rfl, rfl, rfl, rfl⟩ | ⟨x, rfl, h1, h2, h3, h4, h5⟩
  · exact ⟨fun h => absurd h (by omega), by omega, by omega⟩
  refine ⟨fun hn => ?_, h1, by unfold maxLen at h2; omega⟩
  obtain ⟨b, off, spot⟩ := x
  have hc := h4 0 (by omega)
  have hspot : spot = none := by simpa [Addr.add] using World.cell?_spot hc
  subst hspot
  refine ⟨b, off, rfl, World.block_lt_of_cell? w _ (by simpa [Addr.add] using hc), fun i hi => ?_⟩
  have hi2 : i < zs.length := by omega
  have hci := h4 i hi2
  have hw := h5 (zs.getD i 0) (by rw [List.getD_eq_getElem?_getD, List.getElem?_eq_getElem hi2]; exact List.getElem_mem hi2)
  have hbd := bounds_u8 hw
  obtain ⟨v, hv⟩ := Int.eq_ofNat_of_zero_le hbd.1
  refine ⟨v, by omega, ?_⟩
  rw [hv] at hci
  have he : (⟨b, off, none⟩ : Addr).add i = ⟨b, off + i, none⟩ := by unfold Addr.add; split <;> simp_all
  rw [← he]; exact hci
/-- What a pick leaves. -/
def PickPost (B : Nat) (w : World) (R p : Nat) (n : Int) (e : Ending) (w' : World) : Prop := ∃ v : Int, e = .returned (.int .i64 v) ∧ 0 ≤ v ∧ v < n ∧ Rd B w' R (p + 1) ∧ w.grownBy w' (some R)
end Go.Proofs.Ytjppkcfbhhjniaa

/-
  Words for memory, beside the chapter on paths: a slice of numbers that is read; one that the call itself has made; how both stand behind new blocks, draws, stores, calls.
-/
namespace Go.Proofs.Ytjppkcfbhhjniaa
open Go.RowKit Go.Deep

/-- The slice (A, n) reads as the numbers f; its cells lie below block B. -/
def Rn (w : World) (B : Nat) (A : Option Addr) (n : Nat) (f : Nat → Int) : Prop :=
  0 < n → ∃ b off, A = some ⟨b, off, none⟩ ∧ b < B ∧ ∀ i, i < n → w.cell? ⟨b, off + i, none⟩ = some (.int .i64 (f i))
/-- The slice (A, n) reads as the numbers f; its cells lie in block b and may be written. -/
def Ow (w : World) (b : Nat) (A : Option Addr) (n : Nat) (f : Nat → Int) : Prop :=
  0 < n → ∃ off, A = some ⟨b, off, none⟩ ∧ b < w.heap.size ∧ (∀ i, w.frozen? ⟨b, i, none⟩ = false) ∧ ∀ i, i < n → w.cell? ⟨b, off + i, none⟩ = some (.int .i64 (f i))
section
variable {B b n : Nat} {w w' : World} {A : Option Addr} {f g : Nat → Int}
theorem Rn.keep (h : Rn w B A n f) (hk : ∀ k, k < B → w'.heap[k]? = w.heap[k]?) : Rn w' B A n f := fun hn => by
  obtain ⟨b, off, e, hb, hc⟩ := h hn
  exact ⟨b, off, e, hb, fun i hi => (World.cell?_of_block (a := ⟨b, off + i, none⟩) (hk b hb)).trans (hc i hi)⟩
theorem Rn.up (h : Rn w B A n f) {C : Nat} (hC : B ≤ C) : Rn w C A n f := fun hn => by
  obtain ⟨b, off, e, hb, hc⟩ := h hn
  exact ⟨b, off, e, by omega, hc⟩
theorem Rn.below (h : Rn w B A n f) (hb : Below B w w') : Rn w' B A n f := h.keep hb.block
theorem Rn.call (h : Rn w B A n f) (hB : B ≤ w.heap.size) (hb : Below w.heap.size w w') : Rn w' B A n f := h.below (hb.mono hB)
theorem Rn.alloc (h : Rn w B A n f) (hB : B ≤ w.heap.size) (o : Obj) : Rn (w.alloc o) B A n f := h.keep fun _ hk => blk_alloc_lt _ _ _ (by omega)
theorem Rn.drew (h : Rn w B A n f) : Rn w.drew B A n f := h
theorem Rn.drewN (h : Rn w B A n f) (q : Nat) : Rn (w.drewN q) B A n f := h
theorem Rn.store (h : Rn w B A n f) {a : Addr} (ha : B ≤ a.block) (v : Value) : Rn (w.setCell a v) B A n f := h.keep fun _ hk => blk_setCell_other _ _ _ _ (by omega)
theorem Rn.grown (h : Rn w B A n f) (hB : B ≤ w.heap.size) {r : Nat} (hr : B ≤ r) (hg : w.grownBy w' (some r)) : Rn w' B A n f := h.keep fun k hk => hg.block k (by omega) (fun e => by injection e; omega)
theorem Rn.congr (h : Rn w B A n f) (e : ∀ i, i < n → f i = g i) : Rn w B A n g := fun hn => by
  obtain ⟨b, off, e1, hb, hc⟩ := h hn
  exact ⟨b, off, e1, hb, fun i hi => by rw [hc i hi, e i hi]⟩
theorem Rn.less (h : Rn w B A n f) {m : Nat} (hm : m ≤ n) : Rn w B A m f := fun hn => by
  obtain ⟨b, off, e1, hb, hc⟩ := h (by omega)
  exact ⟨b, off, e1, hb, fun i hi => hc i (by omega)⟩
theorem Rn.top (h : Rn w w.heap.size A n f) (o : Obj) : Rn (w.alloc o) (w.alloc o).heap.size A n f := (h.alloc (Nat.le_refl _) _).up (by simp)
theorem Rn.top2 (h : Rn w w.heap.size A n f) (o p : Obj) : Rn ((w.alloc o).alloc p) ((w.alloc o).alloc p).heap.size A n f := (h.top o).top p
theorem Rn.topd (h : Rn w w.heap.size A n f) : Rn w.drew w.drew.heap.size A n f := h
theorem Rn.topq (h : Rn w w.heap.size A n f) (q : Nat) : Rn (w.drewN q) (w.drewN q).heap.size A n f := h
theorem Rn.topb (h : Rn w w.heap.size A n f) (hb : Below w.heap.size w w') : Rn w' w'.heap.size A n f := (h.below hb).up hb.size
theorem Rn.nil (w : World) (B : Nat) (A : Option Addr) (f : Nat → Int) : Rn w B A 0 f := fun h => absurd h (by omega)
theorem Ow.nil (w : World) (B : Nat) (A : Option Addr) (f : Nat → Int) : Ow w B A 0 f := fun h => absurd h (by omega)
theorem Ow.rn (h : Ow w b A n f) (hb : b < B) : Rn w B A n f := fun hn => by
  obtain ⟨off, e, _, _, hc⟩ := h hn
  exact ⟨b, off, e, hb, hc⟩
theorem Ow.of (h : Ow w b A n f) (e : w'.heap[b]? = w.heap[b]?) (hs : w.heap.size ≤ w'.heap.size) : Ow w' b A n f := fun hn => by
  obtain ⟨off, e1, hb, hf, hc⟩ := h hn
  exact ⟨off, e1, by omega, fun i => (World.frozen?_of_block (w := w) (a := ⟨b, i, none⟩) e).trans (hf i), fun i hi => (World.cell?_of_block (w := w) (a := ⟨b, off + i, none⟩) e).trans (hc i hi)⟩
theorem Ow.alloc (h : Ow w b A n f) (o : Obj) : Ow (w.alloc o) b A n f := fun hn => by
  obtain ⟨_, _, hb, _⟩ := h hn
  exact h.of (blk_alloc_lt _ _ _ hb) (by simp) hn
theorem Ow.drew (h : Ow w b A n f) : Ow w.drew b A n f := h
theorem Ow.drewN (h : Ow w b A n f) (q : Nat) : Ow (w.drewN q) b A n f := h
theorem Ow.call (h : Ow w b A n f) (hb : Below w.heap.size w w') : Ow w' b A n f := fun hn => by
  obtain ⟨_, _, hb1, _⟩ := h hn
  exact h.of (hb.block b hb1) hb.size hn
theorem Ow.store (h : Ow w b A n f) {a : Addr} (ha : b ≠ a.block) (v : Value) : Ow (w.setCell a v) b A n f := h.of (blk_setCell_other _ _ _ _ ha) (by simp [World.setCell])
theorem Ow.grown (h : Ow w b A n f) {r : Nat} (hr : b ≠ r) (hg : w.grownBy w' (some r)) : Ow w' b A n f := fun hn => by
  obtain ⟨_, _, hb1, _⟩ := h hn
  exact h.of (hg.block b hb1 (fun e => by injection e; omega)) hg.size hn
theorem Ow.congr (h : Ow w b A n f) (e : ∀ i, i < n → f i = g i) : Ow w b A n g := fun hn => by
  obtain ⟨off, e1, hb, hf, hc⟩ := h hn
  exact ⟨off, e1, hb, hf, fun i hi => by rw [hc i hi, e i hi]⟩
theorem Ow.set {off k : Nat} {v : Int} (h : Ow w b (some ⟨b, off, none⟩) n f) : Ow (w.setCell ⟨b, off + k, none⟩ (.int .i64 v)) b (some ⟨b, off, none⟩) n (fun i => if i = k then v else f i) := fun hn => by
  obtain ⟨off', e1, hb, hf, hc⟩ := h hn
  simp only [Option.some.injEq, Addr.mk.injEq, true_and, and_true] at e1
  subst e1
  refine ⟨off, rfl, by simpa [World.setCell] using hb, fun i => by simpa using hf i, fun i hi => ?_⟩
  by_cases e : i = k
  · subst e
    show _ = some (Value.int .i64 (if i = i then v else f i))
    rw [if_pos rfl]
    exact World.cell?_setCell_same _ _ _ (hc i hi)
  · show _ = some (Value.int .i64 (if i = k then v else f i))
    rw [if_neg e, World.cell?_setCell_other _ _ _ _ (fun x => e (by simp only [Addr.mk.injEq, true_and, and_true] at x; omega))]
    exact hc i hi
theorem Ow.of_row {T m : Nat} (h : w.rowIs b T m (fun i => .int .i64 (f i))) (hn : n ≤ m) : Ow w b (some ⟨b, 0, none⟩) n f := fun h0 =>
  ⟨0, rfl, h.lt, fun i => h.frozen i, fun i hi => by rw [Nat.zero_add]; exact h.cell (by omega)⟩
theorem undrew (h : Below w.drew.heap.size w.drew w') : Below w.heap.size w w' := ⟨h.os, h.tape, h.output, h.size, h.block⟩
theorem undrewN {q : Nat} (h : Below (w.drewN q).heap.size (w.drewN q) w') : Below w.heap.size w w' := ⟨h.os, h.tape, h.output, h.size, h.block⟩
/-- Only blocks from lo on and below hi have turned. -/
structure Mid (lo hi : Nat) (w w' : World) : Prop where
  os : w'.os = w.os
  tape : w'.tape = w.tape
  output : w'.output = w.output
  size : w.heap.size ≤ w'.heap.size
  block : ∀ k, k < w.heap.size → (k < lo ∨ hi ≤ k) → w'.heap[k]? = w.heap[k]?
theorem Mid.refl (lo hi : Nat) (w : World) : Mid lo hi w w := ⟨rfl, rfl, rfl, Nat.le_refl _, fun _ _ _ => rfl⟩
theorem Mid.trans {lo hi : Nat} {a b c : World} (h : Mid lo hi a b) (k : Mid lo hi b c) : Mid lo hi a c :=
  ⟨k.os.trans h.os, k.tape.trans h.tape, k.output.trans h.output, Nat.le_trans h.size k.size, fun i hi hh => (k.block i (Nat.lt_of_lt_of_le hi h.size) hh).trans (h.block i hi hh)⟩
theorem Mid.below {lo hi B : Nat} (h : Mid lo hi w w') (hB : B ≤ lo) (hw : B ≤ w.heap.size) : Below B w w' := ⟨h.os, h.tape, h.output, h.size, fun k hk => h.block k (by omega) (.inl (by omega))⟩
theorem Mid.of_below {lo hi : Nat} (h : Below w.heap.size w w') : Mid lo hi w w' := ⟨h.os, h.tape, h.output, h.size, fun k hk _ => h.block k hk⟩
theorem Mid.of_grown {lo hi r : Nat} (h : w.grownBy w' (some r)) (h1 : lo ≤ r) (h2 : r < hi) : Mid lo hi w w' := ⟨h.os, h.tape, h.output, h.size, fun k hk hh => h.block k hk (fun e => by injection e; omega)⟩
theorem Ow.mid {lo hi : Nat} (h : Ow w b A n f) (hm : Mid lo hi w w') (hb : b < lo ∨ hi ≤ b) : Ow w' b A n f := fun hn => by
  obtain ⟨_, _, hb1, _⟩ := h hn
  exact h.of (hm.block b hb1 hb) hm.size hn
theorem Rn.mid {lo hi : Nat} (h : Rn w B A n f) (hB : B ≤ w.heap.size) (hm : Mid lo hi w w') (hb : B ≤ lo) : Rn w' B A n f := h.keep fun k hk => hm.block k (by omega) (.inl (by omega))
/-- A path that a call has made: its two slices lie in two blocks of their own, from lo on and below hi. -/
def OwP (w : World) (lo hi : Nat) (a1 : Option Addr) (n1 : Nat) (f1 : Nat → Int) (a2 : Option Addr) (n2 : Nat) (f2 : Nat → Int) : Prop :=
  ∃ b1 b2, (0 < n1 → lo ≤ b1 ∧ b1 < hi) ∧ (0 < n2 → lo ≤ b2 ∧ b2 < hi) ∧ b1 ≠ b2 ∧ Ow w b1 a1 n1 f1 ∧ Ow w b2 a2 n2 f2
section
variable {lo hi n1 n2 : Nat} {a1 a2 : Option Addr} {f1 f2 : Nat → Int}
theorem OwP.call (h : OwP w lo hi a1 n1 f1 a2 n2 f2) (hb : Below w.heap.size w w') : OwP w' lo hi a1 n1 f1 a2 n2 f2 := by
  obtain ⟨b1, b2, h1, h2, hne, o1, o2⟩ := h
  exact ⟨b1, b2, h1, h2, hne, o1.call hb, o2.call hb⟩
theorem OwP.alloc (h : OwP w lo hi a1 n1 f1 a2 n2 f2) (o : Obj) : OwP (w.alloc o) lo hi a1 n1 f1 a2 n2 f2 := by
  obtain ⟨b1, b2, h1, h2, hne, o1, o2⟩ := h
  exact ⟨b1, b2, h1, h2, hne, o1.alloc _, o2.alloc _⟩
theorem OwP.drew (h : OwP w lo hi a1 n1 f1 a2 n2 f2) : OwP w.drew lo hi a1 n1 f1 a2 n2 f2 := h
theorem OwP.drewN (h : OwP w lo hi a1 n1 f1 a2 n2 f2) (q : Nat) : OwP (w.drewN q) lo hi a1 n1 f1 a2 n2 f2 := h
theorem OwP.mid (h : OwP w lo hi a1 n1 f1 a2 n2 f2) {l2 h2 : Nat} (hm : Mid l2 h2 w w') (hh : hi ≤ l2 ∨ h2 ≤ lo) : OwP w' lo hi a1 n1 f1 a2 n2 f2 := by
  obtain ⟨b1, b2, h1, h2, hne, o1, o2⟩ := h
  refine ⟨b1, b2, h1, h2, hne, fun hn => ?_, fun hn => ?_⟩
  · have := h1 hn; exact o1.mid hm (by omega) hn
  · have := h2 hn; exact o2.mid hm (by omega) hn
theorem OwP.rn1 (h : OwP w lo hi a1 n1 f1 a2 n2 f2) : Rn w w.heap.size a1 n1 f1 := by
  obtain ⟨b1, b2, h1, h2, hne, o1, o2⟩ := h
  exact fun hn => by obtain ⟨_, _, hb, _⟩ := o1 hn; exact o1.rn hb hn
theorem OwP.rn2 (h : OwP w lo hi a1 n1 f1 a2 n2 f2) : Rn w w.heap.size a2 n2 f2 := by
  obtain ⟨b1, b2, h1, h2, hne, o1, o2⟩ := h
  exact fun hn => by obtain ⟨_, _, hb, _⟩ := o2 hn; exact o2.rn hb hn
theorem OwP.up (h : OwP w lo hi a1 n1 f1 a2 n2 f2) {l h' : Nat} (hl : l ≤ lo) (hh : hi ≤ h') : OwP w l h' a1 n1 f1 a2 n2 f2 := by
  obtain ⟨b1, b2, h1, h2, hne, o1, o2⟩ := h
  exact ⟨b1, b2, fun x => by have := h1 x; omega, fun x => by have := h2 x; omega, hne, o1, o2⟩
theorem OwP.nil (w : World) (lo hi : Nat) (a1 a2 : Option Addr) (f1 f2 : Nat → Int) : OwP w lo hi a1 0 f1 a2 0 f2 := ⟨0, 1, fun h => absurd h (by omega), fun h => absurd h (by omega), by omega, Ow.nil _ _ _ _, Ow.nil _ _ _ _⟩
end
end
end Go.Proofs.Ytjppkcfbhhjniaa

/-
  A list of things that hold in a world, each with the blocks that it speaks of: how all of them stand behind calls, new blocks, draws, stores.
-/
namespace Go.Proofs.Ytjppkcfbhhjniaa
open Go.RowKit Go.Deep

structure Atom where
  lo : Nat
  hi : Nat
  P : World → Prop
/-- What an atom says depends on its blocks alone. -/
def Atom.ok (a : Atom) : Prop := ∀ W W' : World, a.P W → W.heap.size ≤ W'.heap.size → (∀ b, a.lo ≤ b → b < a.hi → W'.heap[b]? = W.heap[b]?) → a.P W'
def Hold (W : World) (l : List Atom) : Prop := ∀ a ∈ l, a.ok ∧ a.hi ≤ W.heap.size ∧ a.P W
section
variable {W W' : World} {l : List Atom} {a : Atom}
theorem Hold.nil (W : World) : Hold W [] := fun _ h => absurd h (by simp)
theorem Hold.cons (h : Hold W l) (h1 : a.ok) (h2 : a.hi ≤ W.heap.size) (h3 : a.P W) : Hold W (a :: l) := fun b hb => by
  rcases List.mem_cons.1 hb with rfl | hb
  · exact ⟨h1, h2, h3⟩
  · exact h b hb
theorem Hold.tl (h : Hold W (a :: l)) : Hold W l := fun b hb => h b (List.mem_cons_of_mem _ hb)
theorem Hold.hd (h : Hold W (a :: l)) : a.P W := (h a (List.mem_cons_self ..)).2.2
theorem Hold.hi (h : Hold W (a :: l)) : a.hi ≤ W.heap.size := (h a (List.mem_cons_self ..)).2.1
theorem Hold.call (h : Hold W l) (hb : Below W.heap.size W W') : Hold W' l := fun b hb1 => by
  obtain ⟨h1, h2, h3⟩ := h b hb1
  exact ⟨h1, Nat.le_trans h2 hb.size, h1 W W' h3 hb.size (fun k _ hk => hb.block k (by omega))⟩
theorem Hold.alloc (h : Hold W l) (o : Obj) : Hold (W.alloc o) l := fun b hb1 => by
  obtain ⟨h1, h2, h3⟩ := h b hb1
  exact ⟨h1, by simp; omega, h1 W _ h3 (by simp) (fun k _ hk => blk_alloc_lt _ _ _ (by omega))⟩
theorem Hold.drew (h : Hold W l) : Hold W.drew l := fun b hb1 => by
  obtain ⟨h1, h2, h3⟩ := h b hb1
  exact ⟨h1, h2, h1 W _ h3 (Nat.le_refl _) (fun k _ hk => rfl)⟩
theorem Hold.drewN (h : Hold W l) (q : Nat) : Hold (W.drewN q) l := fun b hb1 => by
  obtain ⟨h1, h2, h3⟩ := h b hb1
  exact ⟨h1, h2, h1 W _ h3 (Nat.le_refl _) (fun k _ hk => rfl)⟩
/-- All of them speak of blocks below lo or from hi on. -/
def Apart (lo hi : Nat) (l : List Atom) : Prop := ∀ a ∈ l, a.hi ≤ lo ∨ hi ≤ a.lo
theorem Apart.nil (lo hi : Nat) : Apart lo hi [] := fun _ h => absurd h (by simp)
theorem Apart.cons {lo hi : Nat} (h : Apart lo hi l) (h1 : a.hi ≤ lo ∨ hi ≤ a.lo) : Apart lo hi (a :: l) := fun b hb => by
  rcases List.mem_cons.1 hb with rfl | hb
  · exact h1
  · exact h b hb
theorem Hold.mid {lo hi : Nat} (h : Hold W l) (hm : Mid lo hi W W') (ha : Apart lo hi l) : Hold W' l := fun b hb1 => by
  obtain ⟨h1, h2, h3⟩ := h b hb1
  have := ha b hb1
  exact ⟨h1, Nat.le_trans h2 hm.size, h1 W W' h3 hm.size (fun k hk1 hk => hm.block k (by omega) (by omega))⟩
theorem Hold.store {g : Nat} (h : Hold W l) (ha : Apart g (g + 1) l) (i : Nat) (v : Value) : Hold (W.setCell ⟨g, i, none⟩ v) l := fun b hb1 => by
  obtain ⟨h1, h2, h3⟩ := h b hb1
  have := ha b hb1
  exact ⟨h1, by simpa [World.setCell] using h2, h1 W _ h3 (by simp [World.setCell]) (fun k hk1 hk => blk_setCell_other _ _ _ _ (by simp; omega))⟩
theorem Hold.grown {g : Nat} (h : Hold W l) (ha : Apart g (g + 1) l) (hg : W.grownBy W' (some g)) : Hold W' l := fun b hb1 => by
  obtain ⟨h1, h2, h3⟩ := h b hb1
  have := ha b hb1
  exact ⟨h1, Nat.le_trans h2 hg.size, h1 W _ h3 hg.size (fun k hk1 hk => hg.block k (by omega) (fun e => by injection e; omega))⟩
end
/-- A block known whole. -/
def bxA (b : Nat) (l : List Value) : Atom := ⟨b, b + 1, fun W => Bx W b l⟩
theorem bxA_ok (b : Nat) (l : List Value) : (bxA b l).ok := fun _ _ h _ hk => Bx.of h (hk b (Nat.le_refl _) (Nat.lt_succ_self _))
/-- A slice of numbers that is read. -/
def rnA (B : Nat) (A : Option Addr) (n : Nat) (f : Nat → Int) : Atom := ⟨0, B, fun W => Rn W B A n f⟩
theorem rnA_ok (B : Nat) (A : Option Addr) (n : Nat) (f : Nat → Int) : (rnA B A n f).ok := fun _ _ h _ hk => Rn.keep h (fun k hk1 => hk k (Nat.zero_le _) hk1)
/-- A path that a call has made. -/
def opA (lo hi : Nat) (a1 : Option Addr) (n1 : Nat) (f1 : Nat → Int) (a2 : Option Addr) (n2 : Nat) (f2 : Nat → Int) : Atom := ⟨lo, hi, fun W => OwP W lo hi a1 n1 f1 a2 n2 f2⟩
theorem opA_ok (lo hi : Nat) (a1 : Option Addr) (n1 : Nat) (f1 : Nat → Int) (a2 : Option Addr) (n2 : Nat) (f2 : Nat → Int) : (opA lo hi a1 n1 f1 a2 n2 f2).ok := by
  rintro W W' ⟨b1, b2, h1, h2, hne, o1, o2⟩ hs hk
  exact ⟨b1, b2, h1, h2, hne, fun hn => o1.of (hk b1 (h1 hn).1 (h1 hn).2) hs hn, fun hn => o2.of (hk b2 (h2 hn).1 (h2 hn).2) hs hn⟩
/-- A slice of numbers that a call has made. -/
def owA (lo hi : Nat) (A : Option Addr) (n : Nat) (f : Nat → Int) : Atom := ⟨lo, hi, fun W => ∃ b, (0 < n → lo ≤ b ∧ b < hi) ∧ Ow W b A n f⟩
theorem owA_ok (lo hi : Nat) (A : Option Addr) (n : Nat) (f : Nat → Int) : (owA lo hi A n f).ok := by
  rintro W W' ⟨b, h1, o1⟩ hs hk
  exact ⟨b, h1, fun hn => o1.of (hk b (h1 hn).1 (h1 hn).2) hs hn⟩
section
variable {W W' : World} {l : List Atom} {b n n1 n2 B lo hi : Nat} {L : List Value} {f f1 f2 : Nat → Int} {A a1 a2 : Option Addr}
theorem Hold.box (h : Hold W l) (hb : Bx W b L) : Hold W (bxA b L :: l) := h.cons (bxA_ok _ _) hb.lt hb
/-- A new box. -/
theorem Hold.new (h : Hold W l) (L : List Value) (T : TypeId) : Hold (W.alloc (.cells L.toArray T)) (bxA W.heap.size L :: l) := (h.alloc _).box (Bx.new W L T)
theorem Hold.rn (h : Hold W l) (hB : B ≤ W.heap.size) (hr : Rn W B A n f) : Hold W (rnA B A n f :: l) := h.cons (rnA_ok _ _ _ _) hB hr
theorem Hold.op (h : Hold W l) (hB : hi ≤ W.heap.size) (hr : OwP W lo hi a1 n1 f1 a2 n2 f2) : Hold W (opA lo hi a1 n1 f1 a2 n2 f2 :: l) := h.cons (opA_ok _ _ _ _ _ _ _ _) hB hr
theorem Hold.bx2 {x y : Value} (h : Hold W (bxA b [x, y] :: l)) : W.cell? ⟨b, 0, none⟩ = some x ∧ W.cell? ⟨b, 1, none⟩ = some y :=
  ⟨Bx.cell (i := 0) h.hd (by simp), Bx.cell (i := 1) h.hd (by simp)⟩
theorem Hold.rnup (h : Hold W (rnA B A n f :: l)) : Rn W W.heap.size A n f := Rn.up h.hd h.hi
theorem Hold.op1 (h : Hold W (opA lo hi a1 n1 f1 a2 n2 f2 :: l)) : Rn W W.heap.size a1 n1 f1 := OwP.rn1 h.hd
theorem Hold.op2 (h : Hold W (opA lo hi a1 n1 f1 a2 n2 f2 :: l)) : Rn W W.heap.size a2 n2 f2 := OwP.rn2 h.hd
theorem Hold.opP (h : Hold W (opA lo hi a1 n1 f1 a2 n2 f2 :: l)) : OwP W lo hi a1 n1 f1 a2 n2 f2 := h.hd
theorem Hold.bxlt (h : Hold W (bxA b L :: l)) : b < W.heap.size := h.hi
theorem Hold.front1 {a' b' : Atom} (h : Hold W (a' :: b' :: l)) : Hold W (b' :: a' :: l) := fun x hx => h x (by
  simp only [List.mem_cons] at hx ⊢
  rcases hx with h | h | h <;> simp [h])
theorem Hold.front2 {a' b' c' : Atom} (h : Hold W (a' :: b' :: c' :: l)) : Hold W (c' :: a' :: b' :: l) := fun x hx => h x (by
  simp only [List.mem_cons] at hx ⊢
  rcases hx with h | h | h | h <;> simp [h])
theorem Hold.front3 {a' b' c' d' : Atom} (h : Hold W (a' :: b' :: c' :: d' :: l)) : Hold W (d' :: a' :: b' :: c' :: l) := fun x hx => h x (by
  simp only [List.mem_cons] at hx ⊢
  rcases hx with h | h | h | h | h <;> simp [h])
theorem Hold.front4 {a' b' c' d' e' : Atom} (h : Hold W (a' :: b' :: c' :: d' :: e' :: l)) : Hold W (e' :: a' :: b' :: c' :: d' :: l) := fun x hx => h x (by
  simp only [List.mem_cons] at hx ⊢
  rcases hx with h | h | h | h | h | h <;> simp [h])
theorem Hold.front5 {a' b' c' d' e' f' : Atom} (h : Hold W (a' :: b' :: c' :: d' :: e' :: f' :: l)) : Hold W (f' :: a' :: b' :: c' :: d' :: e' :: l) := fun x hx => h x (by
  simp only [List.mem_cons] at hx ⊢
  rcases hx with h | h | h | h | h | h | h <;> simp [h])
theorem Hold.front6 {a' b' c' d' e' f' g' : Atom} (h : Hold W (a' :: b' :: c' :: d' :: e' :: f' :: g' :: l)) : Hold W (g' :: a' :: b' :: c' :: d' :: e' :: f' :: l) := fun x hx => h x (by
  simp only [List.mem_cons] at hx ⊢
  rcases hx with h | h | h | h | h | h | h | h <;> simp [h])
theorem Hold.front7 {a' b' c' d' e' f' g' h' : Atom} (h : Hold W (a' :: b' :: c' :: d' :: e' :: f' :: g' :: h' :: l)) : Hold W (h' :: a' :: b' :: c' :: d' :: e' :: f' :: g' :: l) := fun x hx => h x (by
  simp only [List.mem_cons] at hx ⊢
  rcases hx with h | h | h | h | h | h | h | h | h <;> simp [h])
theorem Hold.front8 {a' b' c' d' e' f' g' h' i' : Atom} (h : Hold W (a' :: b' :: c' :: d' :: e' :: f' :: g' :: h' :: i' :: l)) : Hold W (i' :: a' :: b' :: c' :: d' :: e' :: f' :: g' :: h' :: l) := fun x hx => h x (by
  simp only [List.mem_cons] at hx ⊢
  rcases hx with h | h | h | h | h | h | h | h | h | h <;> simp [h])
theorem Hold.front9 {a' b' c' d' e' f' g' h' i' j' : Atom} (h : Hold W (a' :: b' :: c' :: d' :: e' :: f' :: g' :: h' :: i' :: j' :: l)) : Hold W (j' :: a' :: b' :: c' :: d' :: e' :: f' :: g' :: h' :: i' :: l) := fun x hx => h x (by
  simp only [List.mem_cons] at hx ⊢
  rcases hx with h | h | h | h | h | h | h | h | h | h | h <;> simp [h])
theorem Hold.front10 {a' b' c' d' e' f' g' h' i' j' k' : Atom} (h : Hold W (a' :: b' :: c' :: d' :: e' :: f' :: g' :: h' :: i' :: j' :: k' :: l)) : Hold W (k' :: a' :: b' :: c' :: d' :: e' :: f' :: g' :: h' :: i' :: j' :: l) := fun x hx => h x (by
  simp only [List.mem_cons] at hx ⊢
  rcases hx with h | h | h | h | h | h | h | h | h | h | h | h <;> simp [h])
theorem Hold.front11 {a' b' c' d' e' f' g' h' i' j' k' l' : Atom} (h : Hold W (a' :: b' :: c' :: d' :: e' :: f' :: g' :: h' :: i' :: j' :: k' :: l' :: l)) : Hold W (l' :: a' :: b' :: c' :: d' :: e' :: f' :: g' :: h' :: i' :: j' :: k' :: l) := fun x hx => h x (by
  simp only [List.mem_cons] at hx ⊢
  rcases hx with h | h | h | h | h | h | h | h | h | h | h | h | h <;> simp [h])
end
end Go.Proofs.Ytjppkcfbhhjniaa

/-
  Words for memory: a slice of paths that is read; one that the call has made.
-/
namespace Go.Proofs.Ytjppkcfbhhjniaa
open Go.RowKit Go.Deep

/-- The slice (A, n) reads as the paths D; all its memory lies below block B. -/
def PsRn (w : World) (B : Nat) (A : Option Addr) (n : Nat) (D : Nat → PD) : Prop :=
  0 < n → ∃ b off, A = some ⟨b, off, none⟩ ∧ b < B ∧ ∀ i, i < n → ∃ a1 c1 a2 c2, w.cell? ⟨b, off + i * 2, none⟩ = some (.slice a1 (D i).m1 c1) ∧ w.cell? ⟨b, off + i * 2 + 1, none⟩ = some (.slice a2 (D i).m2 c2) ∧ Rn w B a1 (D i).m1 (D i).f1 ∧ Rn w B a2 (D i).m2 (D i).f2
section
variable {B b n lo hi : Nat} {w w' : World} {A : Option Addr} {D : Nat → PD}
theorem PsRn.keep (h : PsRn w B A n D) (hk : ∀ k, k < B → w'.heap[k]? = w.heap[k]?) : PsRn w' B A n D := fun hn => by
  obtain ⟨b, off, e, hb, hc⟩ := h hn
  refine ⟨b, off, e, hb, fun i hi => ?_⟩
  obtain ⟨a1, c1, a2, c2, h1, h2, h3, h4⟩ := hc i hi
  exact ⟨a1, c1, a2, c2, (World.cell?_of_block (a := ⟨b, off + i * 2, none⟩) (hk b hb)).trans h1, (World.cell?_of_block (a := ⟨b, off + i * 2 + 1, none⟩) (hk b hb)).trans h2, h3.keep hk, h4.keep hk⟩
theorem PsRn.up (h : PsRn w B A n D) {C : Nat} (hC : B ≤ C) : PsRn w C A n D := fun hn => by
  obtain ⟨b, off, e, hb, hc⟩ := h hn
  refine ⟨b, off, e, by omega, fun i hi => ?_⟩
  obtain ⟨a1, c1, a2, c2, h1, h2, h3, h4⟩ := hc i hi
  exact ⟨a1, c1, a2, c2, h1, h2, h3.up hC, h4.up hC⟩
theorem PsRn.below (h : PsRn w B A n D) (hb : Below B w w') : PsRn w' B A n D := h.keep hb.block
theorem PsRn.call (h : PsRn w B A n D) (hB : B ≤ w.heap.size) (hb : Below w.heap.size w w') : PsRn w' B A n D := h.below (hb.mono hB)
theorem PsRn.alloc (h : PsRn w B A n D) (hB : B ≤ w.heap.size) (o : Obj) : PsRn (w.alloc o) B A n D := h.keep fun _ hk => blk_alloc_lt _ _ _ (by omega)
theorem PsRn.top (h : PsRn w w.heap.size A n D) (o : Obj) : PsRn (w.alloc o) (w.alloc o).heap.size A n D := (h.alloc (Nat.le_refl _) _).up (by simp)
theorem PsRn.topd (h : PsRn w w.heap.size A n D) : PsRn w.drew w.drew.heap.size A n D := h
theorem PsRn.topq (h : PsRn w w.heap.size A n D) (q : Nat) : PsRn (w.drewN q) (w.drewN q).heap.size A n D := h
theorem PsRn.topb (h : PsRn w w.heap.size A n D) (hb : Below w.heap.size w w') : PsRn w' w'.heap.size A n D := (h.below hb).up hb.size
theorem PsRn.drewN (h : PsRn w B A n D) (q : Nat) : PsRn (w.drewN q) B A n D := h
theorem PsRn.less (h : PsRn w B A n D) {m : Nat} (hm : m ≤ n) : PsRn w B A m D := fun hn => by
  obtain ⟨b, off, e, hb, hc⟩ := h (by omega)
  exact ⟨b, off, e, hb, fun i hi => hc i (by omega)⟩
theorem PsRn.congr (h : PsRn w B A n D) {E : Nat → PD} (e : ∀ i, i < n → D i = E i) : PsRn w B A n E := fun hn => by
  obtain ⟨b, off, e1, hb, hc⟩ := h hn
  exact ⟨b, off, e1, hb, fun i hi => by rw [← e i hi]; exact hc i hi⟩
/-- One path of the slice. -/
theorem PsRn.at_ (h : PsRn w B A n D) {i : Nat} (hi : i < n) : ∃ b off a1 c1 a2 c2 m1 f1 m2 f2, A = some ⟨b, off, none⟩ ∧ b < B ∧ D i = ⟨m1, f1, m2, f2⟩ ∧ w.cell? ⟨b, off + i * 2, none⟩ = some (.slice a1 m1 c1) ∧ w.cell? ⟨b, off + i * 2 + 1, none⟩ = some (.slice a2 m2 c2) ∧ Rn w B a1 m1 f1 ∧ Rn w B a2 m2 f2 := by
  obtain ⟨b, off, e, hb, hc⟩ := h (by omega)
  obtain ⟨a1, c1, a2, c2, h1, h2, h3, h4⟩ := hc i hi
  exact ⟨b, off, a1, c1, a2, c2, _, _, _, _, e, hb, rfl, h1, h2, h3, h4⟩
end
/-- A slice of paths that a call has made, or is about to make: k of n paths are in; their memory lies from block lo on and below hi, no two slices in one block. -/
def PsPart (w : World) (T : TypeId) (lo hi g n k : Nat) (D : Nat → PD) : Prop :=
  ∃ (G : Nat → Nat) (F : Nat → Value), lo ≤ g ∧ g < hi ∧ (∀ i, i < k * 2 → lo ≤ G i ∧ G i < hi ∧ G i ≠ g) ∧ (∀ i j, i < k * 2 → j < k * 2 → G i = G j → i = j) ∧ w.rowIs g T (n * 2) F ∧
    ∀ i, i < k → ∃ a1 c1 a2 c2, F (i * 2) = .slice a1 (D i).m1 c1 ∧ F (i * 2 + 1) = .slice a2 (D i).m2 c2 ∧ Ow w (G (i * 2)) a1 (D i).m1 (D i).f1 ∧ Ow w (G (i * 2 + 1)) a2 (D i).m2 (D i).f2
section
variable {T lo hi g n k : Nat} {w w' : World} {D : Nat → PD}
theorem PsPart.keep (h : PsPart w T lo hi g n k D) (hs : w.heap.size ≤ w'.heap.size) (hk : ∀ b, lo ≤ b → b < hi → w'.heap[b]? = w.heap[b]?) : PsPart w' T lo hi g n k D := by
  obtain ⟨G, F, h1, h2, h3, h4, ⟨c, hc, hr⟩, h6⟩ := h
  refine ⟨G, F, h1, h2, h3, h4, ⟨c, (hk g h1 h2).trans hc, hr⟩, fun i hi => ?_⟩
  obtain ⟨a1, c1, a2, c2, e1, e2, o1, o2⟩ := h6 i hi
  have q1 := h3 (i * 2) (by omega)
  have q2 := h3 (i * 2 + 1) (by omega)
  exact ⟨a1, c1, a2, c2, e1, e2, o1.of (hk _ q1.1 q1.2.1) hs, o2.of (hk _ q2.1 q2.2.1) hs⟩
theorem PsPart.rn (h : PsPart w T lo hi g n n D) {B : Nat} (hB : hi ≤ B) : PsRn w B (some ⟨g, 0, none⟩) n D := fun hn => by
  obtain ⟨G, F, h1, h2, h3, h4, hr, h6⟩ := h
  refine ⟨g, 0, rfl, by omega, fun i hi => ?_⟩
  obtain ⟨a1, c1, a2, c2, e1, e2, o1, o2⟩ := h6 i hi
  have q1 := h3 (i * 2) (by omega)
  have q2 := h3 (i * 2 + 1) (by omega)
  exact ⟨a1, c1, a2, c2, by rw [Nat.zero_add, hr.cell (by omega), e1], by rw [Nat.zero_add, hr.cell (by omega), e2], o1.rn (by omega), o2.rn (by omega)⟩
theorem PsPart.start (w : World) (T n g lo hi : Nat) (D : Nat → PD) (F : Nat → Value) (h1 : lo ≤ g) (h2 : g < hi) (hr : w.rowIs g T (n * 2) F) : PsPart w T lo hi g n 0 D :=
  ⟨fun _ => 0, F, h1, h2, fun i hi => absurd hi (by omega), fun i j hi => absurd hi (by omega), hr, fun i hi => absurd hi (by omega)⟩
/-- One more path is put in. -/
theorem PsPart.put (h : PsPart w T lo hi g n k D) (hk : k < n) (hhi : hi ≤ w.heap.size) (hb : Below w.heap.size w w') {a1 a2 : Option Addr} {c1 c2 b1 b2 : Nat} (hl : b1 < b2) (hl1 : w.heap.size ≤ b1) (hl2 : b2 < w'.heap.size)
    (o1 : Ow w' b1 a1 (D k).m1 (D k).f1) (o2 : Ow w' b2 a2 (D k).m2 (D k).f2) :
    PsPart ((w'.setCell ⟨g, k * 2, none⟩ (.slice a1 (D k).m1 c1)).setCell ⟨g, k * 2 + 1, none⟩ (.slice a2 (D k).m2 c2)) T lo w'.heap.size g n (k + 1) D := by
  have h' := h.keep (w' := w') hb.size (fun b _ hb1 => hb.block b (by omega))
  obtain ⟨G, F, h1, h2, h3, h4, hr, h6⟩ := h'
  have hsz := hb.size
  refine ⟨fun i => if i = k * 2 then b1 else if i = k * 2 + 1 then b2 else G i, _, h1, by omega, fun i hi => ?_, fun i j hi hj e => ?_, (hr.set (i := k * 2) (v := .slice a1 (D k).m1 c1)).set (i := k * 2 + 1) (v := .slice a2 (D k).m2 c2), fun i hi => ?_⟩
  · by_cases e1 : i = k * 2
    · simp only [if_pos e1]; omega
    · by_cases e2 : i = k * 2 + 1
      · simp only [if_neg e1, if_pos e2]; omega
      · simp only [if_neg e1, if_neg e2]
        have := h3 i (by omega)
        omega
  · have bd : ∀ i, i < k * 2 → G i < w.heap.size := fun i hi => by have := (h3 i hi).2.1; omega
    simp only at e
    by_cases i1 : i = k * 2
    · rw [if_pos i1] at e
      by_cases j1 : j = k * 2
      · omega
      · rw [if_neg j1] at e
        by_cases j2 : j = k * 2 + 1
        · rw [if_pos j2] at e; omega
        · rw [if_neg j2] at e; have := bd j (by omega); omega
    · rw [if_neg i1] at e
      by_cases i2 : i = k * 2 + 1
      · rw [if_pos i2] at e
        by_cases j1 : j = k * 2
        · rw [if_pos j1] at e; omega
        · rw [if_neg j1] at e
          by_cases j2 : j = k * 2 + 1
          · omega
          · rw [if_neg j2] at e; have := bd j (by omega); omega
      · rw [if_neg i2] at e
        by_cases j1 : j = k * 2
        · rw [if_pos j1] at e; have := bd i (by omega); omega
        · rw [if_neg j1] at e
          by_cases j2 : j = k * 2 + 1
          · rw [if_pos j2] at e; have := bd i (by omega); omega
          · rw [if_neg j2] at e; exact h4 i j (by omega) (by omega) e
  · by_cases e : i = k
    · subst e
      refine ⟨a1, c1, a2, c2, ?_, ?_, ?_, ?_⟩
      · rw [if_neg (by omega), if_pos rfl]
      · rw [if_pos rfl]
      · simp only [if_pos]; exact (o1.store (a := ⟨g, i * 2, none⟩) (by simp; omega) _).store (a := ⟨g, i * 2 + 1, none⟩) (by simp; omega) _
      · simp only [if_neg (show ¬ i * 2 + 1 = i * 2 by omega), if_pos]; exact (o2.store (a := ⟨g, i * 2, none⟩) (by simp; omega) _).store (a := ⟨g, i * 2 + 1, none⟩) (by simp; omega) _
    · obtain ⟨d1, e1, d2, e2, q1, q2, q3, q4⟩ := h6 i (by omega)
      have z1 := h3 (i * 2) (by omega)
      have z2 := h3 (i * 2 + 1) (by omega)
      refine ⟨d1, e1, d2, e2, ?_, ?_, ?_, ?_⟩
      · rw [if_neg (by omega), if_neg (by omega), q1]
      · rw [if_neg (by omega), if_neg (by omega), q2]
      · simp only [if_neg (show ¬ i * 2 = k * 2 by omega), if_neg (show ¬ i * 2 = k * 2 + 1 by omega)]
        exact (q3.store (a := ⟨g, k * 2, none⟩) (by simp; omega) _).store (a := ⟨g, k * 2 + 1, none⟩) (by simp; omega) _
      · simp only [if_neg (show ¬ i * 2 + 1 = k * 2 by omega), if_neg (show ¬ i * 2 + 1 = k * 2 + 1 by omega)]
        exact (q4.store (a := ⟨g, k * 2, none⟩) (by simp; omega) _).store (a := ⟨g, k * 2 + 1, none⟩) (by simp; omega) _
end
/-- Slices of paths as things that hold. -/
def psA (B : Nat) (A : Option Addr) (n : Nat) (D : Nat → PD) : Atom := ⟨0, B, fun W => PsRn W B A n D⟩
theorem psA_ok (B : Nat) (A : Option Addr) (n : Nat) (D : Nat → PD) : (psA B A n D).ok := fun _ _ h _ hk => PsRn.keep h (fun k hk1 => hk k (Nat.zero_le _) hk1)
def ptA (T lo hi g n : Nat) (D : Nat → PD) : Atom := ⟨lo, hi, fun W => PsPart W T lo hi g n n D⟩
theorem ptA_ok (T lo hi g n : Nat) (D : Nat → PD) : (ptA T lo hi g n D).ok := fun _ _ h hs hk => PsPart.keep h hs hk
section
variable {W : World} {l : List Atom} {T B lo hi g n : Nat} {A : Option Addr} {D : Nat → PD}
theorem Hold.ps (h : Hold W l) (hB : B ≤ W.heap.size) (hr : PsRn W B A n D) : Hold W (psA B A n D :: l) := h.cons (psA_ok _ _ _ _) hB hr
theorem Hold.pt (h : Hold W l) (hB : hi ≤ W.heap.size) (hr : PsPart W T lo hi g n n D) : Hold W (ptA T lo hi g n D :: l) := h.cons (ptA_ok _ _ _ _ _ _) hB hr
theorem Hold.psup (h : Hold W (psA B A n D :: l)) : PsRn W W.heap.size A n D := PsRn.up h.hd h.hi
theorem Hold.ptrn (h : Hold W (ptA T lo hi g n D :: l)) : PsRn W W.heap.size (some ⟨g, 0, none⟩) n D := PsPart.rn h.hd h.hi
end
end Go.Proofs.Ytjppkcfbhhjniaa

/-
  A slice of paths that came in, opened.
-/
namespace Go.Proofs.Ytjppkcfbhhjniaa
open Go.RowKit Go.Deep Go.ChangeShapes Go.WideShapes

theorem IsRow.rn {w : World} {a : Option Addr} {len cap : Nat} {zs : List Int} (h : IsRow .i64 w a len cap zs) : Rn w w.heap.size a len (fun i => zs.getD i 0) ∧ len ≤ cap ∧ cap ≤ 9223372036854775807 := by
  rcases h with ⟨rfl, rfl, rfl, rfl⟩ | ⟨x, rfl, h1, h2, h3, h4, h5⟩
  · exact ⟨fun h => absurd h (by omega), by omega, by omega⟩
  refine ⟨fun hn => ?_, h1, by unfold maxLen at h2; omega⟩
  obtain ⟨b, off, spot⟩ := x
  have hc := h4 0 (by omega)
  have hspot : spot = none := by simpa [Addr.add] using World.cell?_spot hc
  subst hspot
  refine ⟨b, off, rfl, World.block_lt_of_cell? w _ (by simpa [Addr.add] using hc), fun i hi => ?_⟩
  have hci := h4 i (by omega)
  have he : (⟨b, off, none⟩ : Addr).add i = ⟨b, off + i, none⟩ := by unfold Addr.add; split <;> simp_all
  rw [← he]; exact hci
/-- What the frame of a law tells of a slice of paths that came in. -/
def IsPaths (w : World) (a : Option Addr) (len cap : Nat) (D : Nat → PD) : Prop := len ≤ cap ∧ cap ≤ 9223372036854775807 ∧ PsRn w w.heap.size a len D ∧ ∀ i, i < len → (D i).m1 ≤ 9223372036854775807 ∧ (D i).m2 ≤ 9223372036854775807
section
variable {H : Type} {enc : TypeId × Value → H} {P : Program} {w : World} {base : Nat} {held : Bool}
theorem isRow_of {q it : TypeId} {fuel : Nat} {v : Value} {x : DataW H × List MemPlace} (hq : P.underlying q = some (.slice it)) (hi : P.underlying it = some (.int .i64)) (ci : P.cellsOf it = 1) (h : DataW.trod enc P w base (fun _ => true) held fuel q [v] = some x) :
    ∃ a l c zs, v = Value.slice a l c ∧ IsRow .i64 w a l c zs := by
  rcases open_ints hq hi ci h with ⟨hcs, _⟩ | ⟨x, l, c, zs, hcs, _, hl, hm, hz, _, hcell, hwz⟩
  · simp only [List.cons.injEq, and_true] at hcs
    exact ⟨none, 0, 0, [], hcs, .inl ⟨rfl, rfl, rfl, rfl⟩⟩
  · simp only [List.cons.injEq, and_true] at hcs
    exact ⟨some x, l, c, zs, hcs, .inr ⟨_, rfl, hl, hm, by simpa using hz, hcell, hwz⟩⟩
theorem isPaths_of {t e it : TypeId} {f0 f1 : Field} {fuel : Nat} {a : Option Addr} {len cap : Nat} {x : DataW H × List MemPlace} (ht : P.underlying t = some (.slice e)) (he : P.underlying e = some (.struct #[f0, f1]))
    (ce : P.cellsOf e = 2) (o0 : f0.offset = 0) (o1 : f1.offset = 1) (c0 : P.cellsOf f0.type = 1) (c1 : P.cellsOf f1.type = 1) (q0 : P.underlying f0.type = some (.slice it)) (q1 : P.underlying f1.type = some (.slice it)) (hi : P.underlying it = some (.int .i64)) (ci : P.cellsOf it = 1)
    (h : DataW.trod enc P w base (fun _ => true) held fuel t [.slice a len cap] = some x) : ∃ D, IsPaths w a len cap D := by
  rcases open_slice_pairs ht he ce o0 o1 c0 c1 h with ⟨hcs, _⟩ | ⟨a', len', cap', m, n, V0, V1, D0, D1, P0, P1, hcs, hb, hl, hm, hmm, hx, hall⟩
  · simp only [List.cons.injEq, and_true, Value.slice.injEq] at hcs
    obtain ⟨rfl, rfl, rfl⟩ := hcs
    exact ⟨fun _ => ⟨0, fun _ => 0, 0, fun _ => 0⟩, Nat.le_refl _, by omega, fun hn => absurd hn (by omega), fun i hi => absurd hi (by omega)⟩
  · simp only [List.cons.injEq, and_true, Value.slice.injEq] at hcs
    obtain ⟨rfl, rfl, rfl⟩ := hcs
    simp only [if_true] at hmm
    subst hmm
    have each : ∀ i, i < m → ∃ y : (Option Addr × Nat × Nat × List Int) × (Option Addr × Nat × Nat × List Int), V0 i = .slice y.1.1 y.1.2.1 y.1.2.2.1 ∧ V1 i = .slice y.2.1 y.2.2.1 y.2.2.2.1 ∧ IsRow .i64 w y.1.1 y.1.2.1 y.1.2.2.1 y.1.2.2.2 ∧ IsRow .i64 w y.2.1 y.2.2.1 y.2.2.2.1 y.2.2.2.2 := by
      intro i him
      obtain ⟨_, _, t0, t1⟩ := hall i him
      obtain ⟨b1, l1, k1, z1, e1, w1⟩ := isRow_of q0 hi ci t0
      obtain ⟨b2, l2, k2, z2, e2, w2⟩ := isRow_of q1 hi ci t1
      exact ⟨((b1, l1, k1, z1), (b2, l2, k2, z2)), e1, e2, w1, w2⟩
    haveI : Inhabited ((Option Addr × Nat × Nat × List Int) × (Option Addr × Nat × Nat × List Int)) := ⟨((none, 0, 0, []), (none, 0, 0, []))⟩
    obtain ⟨y, hy⟩ := choose_lt each
    have hm2 := hm
    unfold maxLen at hm2
    refine ⟨fun i => ⟨(y i).1.2.1, fun j => (y i).1.2.2.2.getD j 0, (y i).2.2.1, fun j => (y i).2.2.2.2.getD j 0⟩, hl, hm2, fun hn => ?_, fun i hi2 => ?_⟩
    · obtain ⟨b, off, spot⟩ := a'
      have hc := (hall 0 (by omega)).1
      have hspot : spot = none := by simpa [Addr.add] using World.cell?_spot hc
      subst hspot
      refine ⟨b, off, rfl, World.block_lt_of_cell? w _ (by simpa [Addr.add] using hc), fun i hi2 => ?_⟩
      obtain ⟨h1, h2, _, _⟩ := hall i (by omega)
      obtain ⟨e1, e2, w1, w2⟩ := hy i (by omega)
      have ha : ∀ j, (⟨b, off, none⟩ : Addr).add j = ⟨b, off + j, none⟩ := fun j => by unfold Addr.add; split <;> simp_all
      rw [ha] at h1 h2
      exact ⟨(y i).1.1, (y i).1.2.2.1, (y i).2.1, (y i).2.2.2.1, by rw [h1, e1], by rw [← e2, ← h2]; rfl, w1.rn.1, w2.rn.1⟩
    · obtain ⟨_, _, w1, w2⟩ := hy i (by omega)
      have k1 := w1.rn.2
      have k2 := w2.rn.2
      exact ⟨by show (y i).1.2.1 ≤ _; omega, by show (y i).2.2.1 ≤ _; omega⟩
end
end Go.Proofs.Ytjppkcfbhhjniaa
