/-
  Plain: turned directions change as often, and need the tokens of the other end.
-/
import Derived.Test.YtejggpejmooegaaTok4P
import Derived.Test.YtejggpejmooegaaTok5P
namespace Go.Proofs.Ytejggpejmooegaa
open Go.RowKit

theorem ud_cases {c : UInt8} (h : isUD c = true) : c = 85 ∨ c = 68 := by
  rcases (isUD_iff c).1 h with h | h
  · exact .inl (is85 h)
  · exact .inr (by simp only [← UInt8.toNat_inj, UInt8.reduceToNat]; omega)
theorem turnC_ud {c : UInt8} (h : isUD c = true) : isUD (turnC c) = true ∧ turnC (turnC c) = c ∧ turnC c ≠ c := by
  rcases ud_cases h with rfl | rfl <;> decide
theorem all_ud {l : List UInt8} (h : dirsV l = true) : ∀ c ∈ l, isUD c = true := by
  unfold dirsV at h; simp only [Bool.and_eq_true, List.all_eq_true] at h; exact h.2
theorem dirs_turn {l : List UInt8} (h : dirsV l = true) : dirsV (turnL l) = true := by
  have ha := all_ud h
  unfold dirsV at h ⊢
  simp only [Bool.and_eq_true, decide_eq_true_eq, List.all_eq_true, turnL, List.length_map, List.mem_map] at h ⊢
  refine ⟨h.1, ?_⟩
  rintro x ⟨c, hc, rfl⟩
  exact (turnC_ud (ha c hc)).1
theorem turn_turn {l : List UInt8} (h : dirsV l = true) : turnL (turnL l) = l := by
  have ha := all_ud h
  clear h
  induction l with
  | nil => rfl
  | cons c t ih =>
    simp only [turnL, List.map_cons] at ih ⊢
    rw [(turnC_ud (ha c (by simp))).2.1, ih (fun x hx => ha x (by simp [hx]))]
theorem turn_inj {a b : UInt8} (ha : isUD a = true) (hb : isUD b = true) : (turnC a = turnC b) ↔ a = b := by
  rcases ud_cases ha with rfl | rfl <;> rcases ud_cases hb with rfl | rfl <;> decide
theorem chg_turn : ∀ {l : List UInt8}, (∀ c ∈ l, isUD c = true) → chg (turnL l) = chg l
  | [], _ => rfl
  | [_], _ => rfl
  | a :: b :: r, h => by
    have ih := chg_turn (l := b :: r) (fun c hc => h c (List.mem_cons_of_mem _ hc))
    simp only [turnL, List.map_cons, chg] at ih ⊢
    rw [ih]
    have := turn_inj (h a (by simp)) (h b (by simp))
    by_cases e : a = b
    · rw [if_pos e, if_pos (this.2 e)]
    · rw [if_neg e, if_neg (fun x => e (this.1 x))]
theorem need_turn (l : List UInt8) : bal (turnL l) = -bal l ∧ needA (turnL l) = needB l ∧ needB (turnL l) = needA l := by
  suffices h : ∀ r : List UInt8, ∀ l, l = r.reverse → bal (turnL l) = -bal l ∧ needA (turnL l) = needB l ∧ needB (turnL l) = needA l from h l.reverse l (by simp)
  intro r
  induction r with
  | nil => intro l h; subst h; simp [bal, needA, needB, needSt, turnL]
  | cons c t ih =>
    intro l h
    subst h
    have := ih _ rfl
    rw [List.reverse_cons]
    have e : turnL (t.reverse ++ [c]) = turnL t.reverse ++ [turnC c] := by simp [turnL]
    rw [e]
    simp only [bal, needA, needB, needSt_snoc, stepN] at this ⊢
    by_cases hc : c = 85
    · have ht : ¬ turnC c = 85 := by subst hc; decide
      rw [if_pos hc, if_neg ht]; omega
    · have ht : turnC c = 85 := by unfold turnC; rw [if_neg hc]
      rw [if_neg hc, if_pos ht]; omega
theorem need_sum (l : List UInt8) : needA l + needB l ≤ l.length ∧ (l = [] ∨ 1 ≤ needA l + needB l) := by
  suffices h : ∀ r : List UInt8, ∀ l, l = r.reverse → needA l + needB l ≤ l.length ∧ (l = [] ∨ 1 ≤ needA l + needB l) ∧ bal l ≤ needA l ∧ -bal l ≤ needB l ∧ 0 ≤ needA l ∧ 0 ≤ needB l from ⟨(h l.reverse l (by simp)).1, (h l.reverse l (by simp)).2.1⟩
  intro r
  induction r with
  | nil => intro l h; subst h; simp [bal, needA, needB, needSt]
  | cons c t ih =>
    intro l h
    subst h
    obtain ⟨h1, h2, h3, h4, h5, h6⟩ := ih _ rfl
    rw [List.reverse_cons]
    simp only [bal, needA, needB, needSt_snoc, stepN, List.length_append, List.length_cons, List.length_nil] at h1 h2 h3 h4 h5 h6 ⊢
    have hne : ¬ (t.reverse ++ [c] = []) := by simp
    refine ⟨by split <;> omega, .inr ?_, by split <;> omega, by split <;> omega, by split <;> omega, by split <;> omega⟩
    rcases h2 with h2 | h2
    · rw [h2] at h1 h3 h4 h5 h6 ⊢; simp only [needSt, List.foldl_nil] at *; split <;> omega
    · split <;> omega
end Go.Proofs.Ytejggpejmooegaa
