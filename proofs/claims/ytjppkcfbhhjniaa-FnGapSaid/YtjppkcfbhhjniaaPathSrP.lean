/-
  Plain: sorting by insertion from the right, of trains that enter at different times, gives their order.
-/
import Derived.Test.YtjppkcfbhhjniaaPathFP
namespace Go.Proofs.Ytjppkcfbhhjniaa
open Go.RowKit

/-- The train at place t of the first i in their order. -/
def ordAt (f : Nat → Int) (i t : Nat) : Nat := (ordN f i).getD t 0
theorem ordAt_eq {f : Nat → Int} {i t : Nat} (h : t < (ordN f i).length) : ordAt f i t = (ordN f i)[t] := by simp [ordAt, List.getD, h]
theorem ordAt_lt {f : Nat → Int} {i t : Nat} (h : t < i) : ordAt f i t < i := by
  have h2 : t < (ordN f i).length := by rw [ord_len]; exact h
  rw [ordAt_eq h2]; exact ord_lt f i h2
/-- The first i are in order, the others where they were. -/
def srt (f : Nat → Int) (i t : Nat) : Nat := if t < i then ordAt f i t else t
/-- The train i stands at place j on its way to the left. -/
def mid (f : Nat → Int) (i j t : Nat) : Nat := if t < j then ordAt f i t else if t = j then i else if t ≤ i then ordAt f i (t - 1) else t
theorem srt_one (f : Nat → Int) (t : Nat) : srt f 1 t = t := by
  unfold srt
  split
  · rename_i h
    obtain rfl : t = 0 := by omega
    rfl
  · rfl
theorem srt_zero (f : Nat → Int) (t : Nat) : srt f 0 t = t := by unfold srt; rw [if_neg (by omega)]
theorem mid_start (f : Nat → Int) (i t : Nat) : mid f i i t = srt f i t := by
  unfold mid srt
  split
  · rfl
  · split
    · omega
    · split
      · omega
      · rfl
theorem mid_at (f : Nat → Int) (i j : Nat) : mid f i j j = i := by unfold mid; rw [if_neg (by omega), if_pos rfl]
theorem mid_left (f : Nat → Int) (i q : Nat) : mid f i (q + 1) q = ordAt f i q := by unfold mid; rw [if_pos (by omega)]
/-- An exchange. -/
theorem mid_swap {f : Nat → Int} {i q : Nat} (hq : q < i) (t : Nat) : (if t = q then i else if t = q + 1 then ordAt f i q else mid f i (q + 1) t) = mid f i q t := by
  unfold mid
  by_cases h1 : t = q
  · subst h1; rw [if_pos rfl, if_neg (by omega), if_pos rfl]
  · rw [if_neg h1]
    by_cases h2 : t = q + 1
    · subst h2; rw [if_pos rfl, if_neg (by omega), if_neg (by omega), if_pos (by omega)]; rfl
    · rw [if_neg h2]
      by_cases h3 : t < q
      · rw [if_pos (by omega), if_pos h3]
      · rw [if_neg (by omega), if_neg h2, if_neg h3, if_neg h1]
theorem ord_mono (f : Nat → Int) (i : Nat) {p q : Nat} (h : p < q) (hq : q < i) : f (ordAt f i p) ≤ f (ordAt f i q) := by
  have hl := ord_len f i
  rw [ordAt_eq (by omega), ordAt_eq (by omega)]
  exact (List.pairwise_iff_getElem.1 (ord_sorted f i)) p q (by omega) (by omega) h
/-- The train is at its place. -/
theorem mid_end {f : Nat → Int} {i j : Nat} (hj : j ≤ i) (h1 : ∀ q, q < j → f (ordAt f i q) < f i) (h2 : j < i → f i < f (ordAt f i j)) (t : Nat) : mid f i j t = srt f (i + 1) t := by
  have hl := ord_len f i
  have e : ordN f (i + 1) = (ordN f i).take j ++ i :: (ordN f i).drop j := ins_at f i (ordN f i) j (by omega) (fun q hq hqj => by have := h1 q hqj; rwa [ordAt_eq hq] at this) (fun hp => by have := h2 (by omega); rw [ordAt_eq hp] at this; omega)
  unfold mid srt
  by_cases a : t < j
  · rw [if_pos a, if_pos (by omega)]
    unfold ordAt
    rw [e, List.getD_eq_getElem?_getD, List.getD_eq_getElem?_getD, List.getElem?_append_left (by rw [List.length_take]; omega), List.getElem?_take_of_lt a]
  · rw [if_neg a]
    by_cases b : t = j
    · subst b
      rw [if_pos rfl, if_pos (by omega)]
      unfold ordAt
      rw [e, List.getD_eq_getElem?_getD, List.getElem?_append_right (by rw [List.length_take]; omega), List.length_take, Nat.min_eq_left (by omega)]
      simp
    · rw [if_neg b]
      by_cases c : t ≤ i
      · rw [if_pos c, if_pos (by omega)]
        unfold ordAt
        rw [e, List.getD_eq_getElem?_getD, List.getD_eq_getElem?_getD, List.getElem?_append_right (by rw [List.length_take]; omega), List.length_take, Nat.min_eq_left (by omega)]
        obtain ⟨s, rfl⟩ : ∃ s, t = j + 1 + s := ⟨t - j - 1, by omega⟩
        rw [show j + 1 + s - j = s + 1 by omega, List.getElem?_cons_succ, List.getElem?_drop, show j + 1 + s - 1 = j + s by omega]
      · rw [if_neg c, if_neg (by omega)]
/-- The same, where the trains enter at different times. -/
theorem mid_end' {f : Nat → Int} {m i j : Nat} (hd : ∀ a b, a < m → b < m → a ≠ b → f a ≠ f b) (him : i < m) (hj : j ≤ i) (h1 : ∀ q, q + 1 = j → ¬ f i < f (ordAt f i q)) (h2 : ∀ q, j ≤ q → q < i → f i < f (ordAt f i q)) (t : Nat) : mid f i j t = srt f (i + 1) t := by
  refine mid_end hj (fun q hq => ?_) (fun h => h2 j (Nat.le_refl _) h) t
  obtain ⟨p, rfl⟩ : ∃ p, j = p + 1 := ⟨j - 1, by omega⟩
  have a := h1 p rfl
  have lt := ordAt_lt (f := f) (i := i) (t := p) (by omega)
  have ne := hd i (ordAt f i p) him (by omega) (by omega)
  by_cases e : q = p
  · subst e; omega
  · have := ord_mono f i (p := q) (q := p) (by omega) (by omega); omega
end Go.Proofs.Ytjppkcfbhhjniaa
