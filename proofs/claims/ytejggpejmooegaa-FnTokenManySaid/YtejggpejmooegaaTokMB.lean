/-
  A queue that has grown, as one that is taken from.
-/
import Derived.Test.YtejggpejmooegaaTokMA
namespace Go.Proofs.Ytejggpejmooegaa
open Go.RowKit Go.Deep
set_option linter.unusedVariables false

theorem tkC_cons (s : Tk) (l : List Tk) : tkC (s :: l) = .int .i64 s.1 :: .int .i64 s.2.1 :: .int .i64 s.2.2 :: tkC l := by simp [tkC]
theorem tkC_at : ∀ (l : List Tk) (i : Nat) (h : i < l.length), (tkC l)[i * 3]? = some (.int .i64 l[i].1) ∧ (tkC l)[i * 3 + 1]? = some (.int .i64 l[i].2.1) ∧ (tkC l)[i * 3 + 2]? = some (.int .i64 l[i].2.2) := by
  intro l
  induction l with
  | nil => intro i h; exact absurd h (by simp)
  | cons s l ih =>
    intro i h
    rw [tkC_cons]
    cases i with
    | zero => exact ⟨rfl, rfl, rfl⟩
    | succ i =>
      obtain ⟨a, b, c⟩ := ih i (by simpa using h)
      rw [show (i + 1) * 3 = i * 3 + 1 + 1 + 1 by omega]
      simp only [List.getElem?_cons_succ, List.getElem_cons_succ]
      exact ⟨a, b, c⟩
theorem GQ.toTQ {w : World} {Q : Nat} {R : Option Nat} {l : List Tk} (h : GQ w Q R l) : TQ w Q w.heap.size l := by
  obtain ⟨sl, hB, hO, hR⟩ := h
  have hO2 := hO
  obtain ⟨hl, h2⟩ := hO
  rcases h2 with ⟨hv, hn⟩ | ⟨g, cap, cur, hv, hb, hg, r1, r2, r3, r4⟩
  · subst hv
    exact ⟨none, 0, by rw [hn]; exact hB, by omega, ⟨hB.lt, Nat.le_refl _⟩, TR.nil hn⟩
  · subst hv
    refine ⟨some ⟨g, 0, none⟩, cap, hB, r1, ⟨hB.lt, Nat.le_refl _⟩, fun hn => ⟨g, 0, rfl, ⟨lt_of_block hg, by omega⟩, fun i hi => ?_⟩⟩
    obtain ⟨a, b, c⟩ := tkC_at l i hi
    have x0 := hO2.cells (g := g) rfl _ _ a
    have x1 := hO2.cells (g := g) rfl _ _ b
    have x2 := hO2.cells (g := g) rfl _ _ c
    refine ⟨?_, ?_, ?_⟩
    · by_cases h0 : i = 0
      · subst h0; simpa [Addr.add] using x0
      · have h3 : ¬ i * 3 = 0 := by omega
        simpa [Addr.add, h3, h0] using x0
    · simpa [Addr.add, Nat.add_assoc] using x1
    · simpa [Addr.add, Nat.add_assoc] using x2
/-- A queue is born: its cell is laid in block Q. -/
theorem GQ.new {w : World} {Q : Nat} (h : Bx w Q [.slice none 0 0]) : GQ w Q none [] := ⟨_, h, ⟨rfl, .inl ⟨rfl, rfl⟩⟩, rfl⟩
theorem GQ.keep {w w' : World} {Q : Nat} {R : Option Nat} {l : List Tk} (h : GQ w Q R l) (hs : w.heap.size ≤ w'.heap.size) (hk : ∀ b, b < w.heap.size → (b = Q ∨ some b = R) → w'.heap[b]? = w.heap[b]?) : GQ w' Q R l := by
  obtain ⟨sl, hB, ⟨hl, h2⟩, hR⟩ := h
  refine ⟨sl, hB.of (hk Q hB.lt (.inl rfl)), ⟨hl, ?_⟩, hR⟩
  rcases h2 with ⟨hv, hn⟩ | ⟨g, cap, cur, hv, hb, hg, r⟩
  · exact .inl ⟨hv, hn⟩
  · refine .inr ⟨g, cap, cur, hv, hb, (hk g (lt_of_block hg) (.inr ?_)).trans hg, r⟩
    subst hv
    rw [← hR]; rfl
theorem TQ.keep {w w' : World} {Q X : Nat} {l : List Tk} (h : TQ w Q X l) (hs : w.heap.size ≤ w'.heap.size) (hk : ∀ b, b < X → w'.heap[b]? = w.heap[b]?) : TQ w' Q X l := by
  obtain ⟨A, c, hB, hc, hX, hT⟩ := h
  exact ⟨A, c, hB.of (hk Q hX.1), hc, ⟨hX.1, by omega⟩, hT.keep fun b hb _ => hk b hb⟩
end Go.Proofs.Ytejggpejmooegaa
