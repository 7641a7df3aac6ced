/-
  Plain: paths taken out of a list and put in another order; trains that pass no other one.
-/
import Derived.Test.YtjppkcfbhhjniaaPathPs
import Derived.Test.YtjppkcfbhhjniaaK1
namespace Go.Proofs.Ytjppkcfbhhjniaa
open Go.RowKit
set_option linter.unusedVariables false

/-- Some paths are paths of the line, too, in whatever order. -/
theorem pathsV_sel {n : Int} {D E : Nat → PD} {m p : Nat} (h : pathsV n D m = true) (s : Nat → Nat) (hp : p ≤ m) (hE : ∀ i, i < p → E i = D (s i)) (hs : ∀ i, i < p → s i < m) (hi : ∀ i j, i < p → j < p → i ≠ j → s i ≠ s j) : pathsV n E p = true := by
  obtain ⟨h1, h2, h3, hF⟩ := pathsV_iff.1 h
  refine pathsV_iff.2 ⟨h1, h2, by omega, fun i hi' => ⟨?_, fun j hj => ?_⟩⟩
  · rw [hE i hi']; exact (hF _ (hs i hi')).1
  · rw [hE i hi', hE j (by omega)]
    have ne := hi i j hi' (by omega) (by omega)
    rcases Nat.lt_or_ge (s j) (s i) with a | a
    · exact (hF _ (hs i hi')).2 _ a
    · rw [clashL_comm]; exact (hF _ (hs j (by omega))).2 _ (by omega)
/-- No list has a path twice. -/
theorem pathsV_twice {n : Int} {D E : Nat → PD} {m t : Nat} (h : pathsV n D m = true) (ht : t < m) (hE : ∀ i, i < m → E i = D i) (hm : E m = D t) : pathsV n E (m + 1) = false := by
  refine pathsV_no fun ⟨h1, h2, _, hF⟩ => ?_
  have hv := ((pathsV_iff.1 h).2.2.2 t ht).1
  have hc := (hF m (by omega)).2 t ht
  rw [hm, hE t ht, clashL_yes hv hv] at hc
  have hk := pathV_times hv (k := 0) (by omega)
  refine clashT_mem (a := D t) (b := D t) (k := 0) ?_ _ (by omega) hc
  unfold clash
  rw [decide_eq_true hk.2.1]; rfl
theorem pathsV_apart {n : Int} {D : Nat → PD} {m i j : Nat} (h : pathsV n D m = true) (hi : i < m) (hj : j < m) (hne : i ≠ j) : clashL n (D i) (D j) = [] := by
  have hF := (pathsV_iff.1 h).2.2.2
  rcases Nat.lt_or_ge i j with a | a
  · exact (hF j hj).2 i a
  · rw [clashL_comm]; exact (hF i hi).2 j (by omega)
theorem sumTo_nonneg {f : Nat → Int} : ∀ n, (∀ i, i < n → 0 ≤ f i) → 0 ≤ sumTo f n := by
  intro n
  induction n with
  | zero => intro _; exact Int.le_refl _
  | succ n ih =>
    intro h
    have h1 := ih (fun i hi => h i (by omega))
    have h2 := h n (by omega)
    rw [sumTo]; omega
theorem sumTo_zero_iff {f : Nat → Int} : ∀ n, (∀ i, i < n → 0 ≤ f i) → (sumTo f n = 0 ↔ ∀ i, i < n → f i = 0) := by
  intro n
  induction n with
  | zero => intro _; exact ⟨fun _ i hi => absurd hi (by omega), fun _ => rfl⟩
  | succ n ih =>
    intro h
    have h1 := ih (fun i hi => h i (by omega))
    have h2 := sumTo_nonneg n (fun i hi => h i (by omega))
    have h3 := h n (by omega)
    rw [sumTo]
    constructor
    · intro e i hi
      by_cases c : i = n
      · subst c; omega
      · exact h1.1 (by omega) i (by omega)
    · intro e
      have a := h1.2 (fun i hi => e i (by omega))
      have b := e n (by omega)
      omega
theorem sumTo_shift (f : Nat → Int) : ∀ n, sumTo f (n + 1) = f 0 + sumTo (fun i => f (i + 1)) n := by
  intro n
  induction n with
  | zero => simp [sumTo]
  | succ n ih => rw [sumTo, ih, sumTo]; omega
theorem sumTo_rev (f : Nat → Int) : ∀ m, sumTo (fun i => f (m - 1 - i)) m = sumTo f m := by
  intro m
  induction m with
  | zero => rfl
  | succ m ih =>
    rw [sumTo_shift, sumTo, ← ih]
    have e : sumTo (fun i => f (m + 1 - 1 - (i + 1))) m = sumTo (fun i => f (m - 1 - i)) m := sumTo_congr m fun i hi => by rw [show m + 1 - 1 - (i + 1) = m - 1 - i by omega]
    rw [e]
    have e2 : m + 1 - 1 - 0 = m := by omega
    rw [e2]; omega
/-- Half of a square. -/
theorem sumTo_tri {G : Nat → Nat → Int} : ∀ m, (∀ i j, i < m → j < m → i ≠ j → G i j = G j i) → (∀ i, i < m → G i i = 0) → sumTo (fun i => sumTo (G i) m) m = 2 * sumTo (fun i => sumTo (G i) i) m := by
  intro m
  induction m with
  | zero => intro _ _; rfl
  | succ m ih =>
    intro hs h0
    have h1 := ih (fun i j hi hj => hs i j (by omega) (by omega)) (fun i hi => h0 i (by omega))
    have e : sumTo (fun i => sumTo (G i) (m + 1)) m = sumTo (fun i => sumTo (G i) m) m + sumTo (fun i => G i m) m := sumTo_add (fun i => sumTo (G i) m) (fun i => G i m) m
    have e2 : sumTo (fun i => G i m) m = sumTo (G m) m := sumTo_congr m fun i hi => hs i m (by omega) (by omega) (by omega)
    have e3 := h0 m (by omega)
    show sumTo (fun i => sumTo (G i) (m + 1)) m + (sumTo (G m) m + G m m) = 2 * (sumTo (fun i => sumTo (G i) i) m + sumTo (G m) m)
    omega
theorem pss_symm {D : Nat → PD} {k i j : Nat} (h1 : (D i).f1 k ≠ (D j).f1 k) (h2 : (D i).f1 (k + 1) ≠ (D j).f1 (k + 1)) : pss D k i j = pss D k j i := by
  have key : ∀ a b : Int, a ≠ b → decide (b < a) = !decide (a < b) := fun a b h => by
    by_cases c : a < b
    · rw [decide_eq_true c, decide_eq_false (by omega)]; rfl
    · rw [decide_eq_false c, decide_eq_true (by omega)]; rfl
  unfold pss
  rw [key _ _ h1, key _ _ h2]
  cases decide ((D i).f1 k < (D j).f1 k) <;> cases decide ((D i).f1 (k + 1) < (D j).f1 (k + 1)) <;> rfl
theorem pss_diag (D : Nat → PD) (k i : Nat) : pss D k i i = 0 := by simp [pss]
theorem pss_zero {D : Nat → PD} {k i j : Nat} : pss D k i j = 0 ↔ ((D i).f1 k < (D j).f1 k ↔ (D i).f1 (k + 1) < (D j).f1 (k + 1)) := by
  unfold pss
  by_cases a : (D i).f1 k < (D j).f1 k <;> by_cases b : (D i).f1 (k + 1) < (D j).f1 (k + 1) <;> simp [a, b]
/-- All trains enter each section at times of their own. -/
def Own (D : Nat → PD) (m s : Nat) : Prop := ∀ k, k ≤ s → ∀ a b, a < m → b < m → a ≠ b → (D a).f1 k ≠ (D b).f1 k
theorem own_of {D : Nat → PD} {m s : Nat} (h : pathsV ((s : Int) + 1) D m = true) : Own D m s := fun k hk => (sec_of h (by omega)).ne
theorem passes_rev {D : Nat → PD} {m s : Nat} (h : Own D m s) : passes (fun i => D (m - 1 - i)) m s = passes D m s := by
  refine sumTo_congr s fun k hk => ?_
  have o : ∀ i j, i < m → j < m → i ≠ j → pss D k i j = pss D k j i := fun i j hi hj hne => pss_symm (h k (by omega) i j hi hj hne) (h (k + 1) (by omega) i j hi hj hne)
  have t1 := sumTo_tri (G := pss D k) m o (fun i _ => pss_diag D k i)
  have t2 := sumTo_tri (G := pss (fun i => D (m - 1 - i)) k) m (fun i j hi hj hne => o (m - 1 - i) (m - 1 - j) (by omega) (by omega) (by omega)) (fun i _ => pss_diag _ k i)
  have e : sumTo (fun i => sumTo (pss (fun i => D (m - 1 - i)) k i) m) m = sumTo (fun i => sumTo (pss D k i) m) m := by
    rw [← sumTo_rev (fun i => sumTo (pss D k i) m) m]
    exact sumTo_congr m fun i hi => sumTo_rev (fun j => pss D k (m - 1 - i) j) m
  show sumTo (fun i => sumTo (pss (fun i => D (m - 1 - i)) k i) i) m = sumTo (fun i => sumTo (pss D k i) i) m
  omega
theorem passes_zero {D : Nat → PD} {m s : Nat} : passes D m s = 0 ↔ ∀ k, k < s → ∀ i, i < m → ∀ j, j < i → ((D i).f1 k < (D j).f1 k ↔ (D i).f1 (k + 1) < (D j).f1 (k + 1)) := by
  have p0 := fun k i j => (pss_bd D k i j).1
  have pj := fun k i => sumTo_nonneg i (fun j _ => p0 k i j)
  have pi := fun k => sumTo_nonneg m (fun i _ => pj k i)
  have key := sumTo_zero_iff (f := fun k => sumTo (fun i => sumTo (fun j => pss D k i j) i) m) s (fun k _ => pi k)
  show sumTo (fun k => sumTo (fun i => sumTo (fun j => pss D k i j) i) m) s = 0 ↔ _
  rw [key]
  constructor
  · intro e k hk i hi j hj
    have e1 := (sumTo_zero_iff m (fun i _ => pj k i)).1 (e k hk) i hi
    exact pss_zero.1 ((sumTo_zero_iff i (fun j _ => p0 k i j)).1 e1 j hj)
  · intro e k hk
    exact (sumTo_zero_iff m (fun i _ => pj k i)).2 fun i hi => (sumTo_zero_iff i (fun j _ => p0 k i j)).2 fun j hj => pss_zero.2 (e k hk i hi j hj)
/-- Without passing, all sections have one order. -/
theorem passes_ord {D : Nat → PD} {m s : Nat} (h : Own D m s) : passes D m s = 0 ↔ ∀ u, u < s → ordN (fun i => (D i).f1 (u + 1)) m = ordN (fun i => (D i).f1 0) m := by
  rw [passes_zero]
  constructor
  · intro e
    have step : ∀ k, k < s → ordN (fun i => (D i).f1 (k + 1)) m = ordN (fun i => (D i).f1 k) m := fun k hk => ord_congr m fun i j hi hj => by
      have h1 := e k hk i hi j hj
      have h2 := h k (by omega) i j hi (by omega) (by omega)
      have h3 := h (k + 1) (by omega) i j hi (by omega) (by omega)
      show (D j).f1 (k + 1) < (D i).f1 (k + 1) ↔ (D j).f1 k < (D i).f1 k
      omega
    intro u
    induction u with
    | zero => exact step 0
    | succ u ih => intro hu; rw [step (u + 1) hu]; exact ih (by omega)
  · intro e k hk i hi j hj
    have o : ordN (fun i => (D i).f1 k) m = ordN (fun i => (D i).f1 (k + 1)) m := by
      rw [e k hk]
      cases k with
      | zero => rfl
      | succ k => exact e k (by omega)
    exact lt_of_ord (fun a b => h k (by omega) a b) (fun a b => h (k + 1) (by omega) a b) o hi (by omega)
theorem ord_eqI {f g : Nat → Int} {m : Nat} : eqI m (fun i => ((ordAt f m i : Nat) : Int)) m (fun i => ((ordAt g m i : Nat) : Int)) = decide (ordN f m = ordN g m) := by
  have hf := ord_len f m
  have hg := ord_len g m
  by_cases e : ordN f m = ordN g m
  · rw [decide_eq_true e]
    exact eqI_yes fun i _ => by unfold ordAt; rw [e]
  · rw [decide_eq_false e]
    refine decide_eq_false fun ⟨_, h⟩ => e ?_
    refine List.ext_getElem (by rw [hf, hg]) fun i h1 h2 => ?_
    have q : ((ordAt f m i : Nat) : Int) = ((ordAt g m i : Nat) : Int) := h i (by omega)
    rw [ordAt_eq h1, ordAt_eq h2] at q
    omega
end Go.Proofs.Ytjppkcfbhhjniaa
