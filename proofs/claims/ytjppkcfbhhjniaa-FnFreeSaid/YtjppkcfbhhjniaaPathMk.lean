/-
  Contract of markPathS.
-/
import Derived.Test.YtjppkcfbhhjniaaPathSC
namespace Go.Proofs.Ytjppkcfbhhjniaa
open Go.RowKit
set_option linter.unusedVariables false

/-- A slice of paths that a call has made, of which only the lengths are known. -/
def PsAny (w : World) (T : TypeId) (lo hi g n : Nat) (D : Nat → PD) : Prop := ∃ E : Nat → PD, (∀ i, i < n → (E i).m1 = (D i).m1 ∧ (E i).m2 = (D i).m2) ∧ PsPart w T lo hi g n n E
theorem PsAny.at_ {w : World} {T : TypeId} {lo hi g n : Nat} {D : Nat → PD} (h : PsAny w T lo hi g n D) {i : Nat} (hi' : i < n) : ∃ a1 c1 a2 c2 b1 b2 f1 f2, w.cell? ⟨g, i * 2, none⟩ = some (.slice a1 (D i).m1 c1) ∧ w.cell? ⟨g, i * 2 + 1, none⟩ = some (.slice a2 (D i).m2 c2) ∧
    (lo ≤ b1 ∧ b1 < hi) ∧ (lo ≤ b2 ∧ b2 < hi) ∧ Ow w b1 a1 (D i).m1 f1 ∧ Ow w b2 a2 (D i).m2 f2 ∧ (∀ w' f', w.grownBy w' (some b1) → Ow w' b1 a1 (D i).m1 f' → PsAny w' T lo hi g n D) ∧ (∀ w' f', w.grownBy w' (some b2) → Ow w' b2 a2 (D i).m2 f' → PsAny w' T lo hi g n D) := by
  obtain ⟨E, hE, G, F, h1, h2, h3, h4, hr, h6⟩ := h
  obtain ⟨a1, c1, a2, c2, e1, e2, o1, o2⟩ := h6 i hi'
  have q1 := h3 (i * 2) (by omega)
  have q2 := h3 (i * 2 + 1) (by omega)
  obtain ⟨l1, l2⟩ := hE i hi'
  rw [l1] at e1 o1
  rw [l2] at e2 o2
  refine ⟨a1, c1, a2, c2, G (i * 2), G (i * 2 + 1), _, _, by rw [hr.cell (by omega), e1], by rw [hr.cell (by omega), e2], ⟨q1.1, q1.2.1⟩, ⟨q2.1, q2.2.1⟩, o1, o2, fun w' f' hg ho => ?_, fun w' f' hg ho => ?_⟩
  · refine ⟨fun j => if j = i then ⟨(D i).m1, f', (D i).m2, (E i).f2⟩ else E j, fun j hj => ?_, G, F, h1, h2, h3, h4, ?_, fun j hj => ?_⟩
    · by_cases e : j = i
      · subst e; simp
      · simp only [if_neg e]; exact hE j hj
    · obtain ⟨c, hc, hrr⟩ := hr
      exact ⟨c, (hg.block g (lt_of_block hc) (fun e => q1.2.2 (by injection e with e; exact e.symm))).trans hc, hrr⟩
    · by_cases e : j = i
      · subst e
        simp only [if_true]
        exact ⟨a1, c1, a2, c2, e1, e2, ho, o2.grown (fun e => by have := h4 (j * 2 + 1) (j * 2) (by omega) (by omega) e; omega) hg⟩
      · simp only [if_neg e]
        obtain ⟨d1, k1, d2, k2, z1, z2, p1, p2⟩ := h6 j hj
        exact ⟨d1, k1, d2, k2, z1, z2, p1.grown (fun x => by have := h4 (j * 2) (i * 2) (by omega) (by omega) x; omega) hg, p2.grown (fun x => by have := h4 (j * 2 + 1) (i * 2) (by omega) (by omega) x; omega) hg⟩
  · refine ⟨fun j => if j = i then ⟨(D i).m1, (E i).f1, (D i).m2, f'⟩ else E j, fun j hj => ?_, G, F, h1, h2, h3, h4, ?_, fun j hj => ?_⟩
    · by_cases e : j = i
      · subst e; simp
      · simp only [if_neg e]; exact hE j hj
    · obtain ⟨c, hc, hrr⟩ := hr
      exact ⟨c, (hg.block g (lt_of_block hc) (fun e => q2.2.2 (by injection e with e; exact e.symm))).trans hc, hrr⟩
    · by_cases e : j = i
      · subst e
        simp only [if_true]
        exact ⟨a1, c1, a2, c2, e1, e2, o1.grown (fun e => by have := h4 (j * 2) (j * 2 + 1) (by omega) (by omega) e; omega) hg, ho⟩
      · simp only [if_neg e]
        obtain ⟨d1, k1, d2, k2, z1, z2, p1, p2⟩ := h6 j hj
        exact ⟨d1, k1, d2, k2, z1, z2, p1.grown (fun x => by have := h4 (j * 2) (i * 2 + 1) (by omega) (by omega) x; omega) hg, p2.grown (fun x => by have := h4 (j * 2 + 1) (i * 2 + 1) (by omega) (by omega) x; omega) hg⟩
theorem PsAny.lt {w : World} {T : TypeId} {lo hi g n : Nat} {D : Nat → PD} (h : PsAny w T lo hi g n D) : g < w.heap.size := by
  obtain ⟨E, hE, G, F, h1, h2, h3, h4, ⟨c, hc, _⟩, h6⟩ := h
  exact lt_of_block hc
end Go.Proofs.Ytjppkcfbhhjniaa
