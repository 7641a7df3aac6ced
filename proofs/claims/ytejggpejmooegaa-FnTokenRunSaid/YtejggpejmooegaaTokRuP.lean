/-
  Plain: what a run of tokens keeps.
-/
import Derived.Test.YtejggpejmooegaaTokTSP
import Derived.Test.YtejggpejmooegaaTokC
namespace Go.Proofs.Ytejggpejmooegaa
open Go.RowKit

theorem go_app (l m : List UInt8) : ∀ (a b o x y z : Int), runGo a b o l = some (x, y, z) → runGo a b o (l ++ m) = runGo x y z m := by
  induction l with
  | nil => intro a b o x y z h; simp only [runGo, Option.some.injEq, Prod.mk.injEq] at h; obtain ⟨rfl, rfl, rfl⟩ := h; rfl
  | cons c r ih =>
    intro a b o x y z h
    simp only [runGo, List.cons_append] at h ⊢
    cases hs : stepO a b o c with
    | none => rw [hs] at h; cases h
    | some t => obtain ⟨u, v, w⟩ := t; rw [hs] at h; exact ih _ _ _ _ _ _ h
theorem go_pre (l m : List UInt8) : ∀ (a b o : Int), runGo a b o (l ++ m) ≠ none → runGo a b o l ≠ none := by
  induction l with
  | nil => intro a b o h; simp [runGo]
  | cons c r ih =>
    intro a b o h
    simp only [runGo, List.cons_append] at h ⊢
    cases hs : stepO a b o c with
    | none => rw [hs] at h; exact absurd rfl h
    | some t => obtain ⟨u, v, w⟩ := t; rw [hs] at h; exact ih _ _ _ h
theorem go_keep2 (l : List UInt8) : ∀ (a b o x y z : Int), tokV a b o = true → runGo a b o l = some (x, y, z) → tokV x y z = true ∧ tokN x y z = tokN a b o ∧
    ((l.count 97 : Int) + (l.count 98 : Int)) - ((l.count 112 : Int) + (l.count 113 : Int)) = min 1 z - min 1 o := by
  induction l with
  | nil => intro a b o x y z hv h; simp only [runGo, Option.some.injEq, Prod.mk.injEq] at h; obtain ⟨rfl, rfl, rfl⟩ := h; exact ⟨hv, rfl, by simp⟩
  | cons c r ih =>
    intro a b o x y z hv h
    simp only [runGo] at h
    cases hs : stepO a b o c with
    | none => rw [hs] at h; cases h
    | some t =>
      obtain ⟨u, v, w⟩ := t
      rw [hs] at h
      obtain ⟨h1, h2, _⟩ := stepO_facts hv hs
      obtain ⟨k1, k2, k3⟩ := ih _ _ _ _ _ _ h1 h
      refine ⟨k1, k2.trans h2, ?_⟩
      rw [tokV_iff] at hv
      unfold stepO at hs
      simp only [List.count_cons]
      split at hs
      · rename_i hc
        obtain ⟨rfl, ho, _⟩ := hc
        simp only [Option.some.injEq, Prod.mk.injEq] at hs
        simp only [show ((97 : UInt8) == 97) = true from rfl, show ((97 : UInt8) == 98) = false from rfl, show ((97 : UInt8) == 112) = false from rfl, show ((97 : UInt8) == 113) = false from rfl, if_true, Bool.false_eq_true, if_false]
        omega
      split at hs
      · rename_i hc
        obtain ⟨rfl, ho, _⟩ := hc
        simp only [Option.some.injEq, Prod.mk.injEq] at hs
        simp only [show ((98 : UInt8) == 97) = false from rfl, show ((98 : UInt8) == 98) = true from rfl, show ((98 : UInt8) == 112) = false from rfl, show ((98 : UInt8) == 113) = false from rfl, if_true, Bool.false_eq_true, if_false]
        omega
      split at hs
      · rename_i hc
        simp only [Option.some.injEq, Prod.mk.injEq] at hs
        rcases hc with ⟨rfl, ho⟩ | ⟨rfl, ho⟩
        all_goals
          simp only [show ((112 : UInt8) == 97) = false from rfl, show ((112 : UInt8) == 98) = false from rfl, show ((112 : UInt8) == 112) = true from rfl, show ((112 : UInt8) == 113) = false from rfl, show ((113 : UInt8) == 97) = false from rfl, show ((113 : UInt8) == 98) = false from rfl, show ((113 : UInt8) == 112) = false from rfl, show ((113 : UInt8) == 113) = true from rfl, if_true, Bool.false_eq_true, if_false]
          omega
      split at hs
      · rename_i hc
        simp only [Option.some.injEq, Prod.mk.injEq] at hs
        rcases hc with ⟨rfl, ho⟩ | ⟨rfl, ho⟩
        all_goals
          simp only [show ((112 : UInt8) == 97) = false from rfl, show ((112 : UInt8) == 98) = false from rfl, show ((112 : UInt8) == 112) = true from rfl, show ((112 : UInt8) == 113) = false from rfl, show ((113 : UInt8) == 97) = false from rfl, show ((113 : UInt8) == 98) = false from rfl, show ((113 : UInt8) == 112) = false from rfl, show ((113 : UInt8) == 113) = true from rfl, if_true, Bool.false_eq_true, if_false]
          omega
      · cases hs
/-- All that the law asks of a run. -/
theorem run_facts {a b o x y z : Int} {s : ByteArray} (h : runS a b o s.data.toList = some (x, y, z)) : tokV a b o = true ∧ tokV x y z = true ∧ s.size ≤ 30 ∧ tokN x y z = tokN a b o ∧
    ((s.data.toList.count 97 : Int) + (s.data.toList.count 98 : Int)) - ((s.data.toList.count 112 : Int) + (s.data.toList.count 113 : Int)) = min 1 z - min 1 o ∧
    ∀ k : Nat, k ≤ s.size → ∃ u v t : Int, runS a b o (s.extract 0 k).data.toList = some (u, v, t) ∧ runS u v t (s.extract k s.size).data.toList = some (x, y, z) := by
  unfold runS at h
  split at h
  rotate_left
  · cases h
  rename_i hc
  obtain ⟨hv, hl⟩ := hc
  have hsz : s.size ≤ 30 := by
    have e : s.data.toList.length = s.size := by simp
    omega
  obtain ⟨h1, h2, h3⟩ := go_keep2 _ _ _ _ _ _ _ hv h
  refine ⟨hv, h1, hsz, h2, h3, fun k hk => ?_⟩
  rw [ext_take, ext_drop]
  have hp : runGo a b o (s.data.toList.take k) ≠ none := go_pre _ (s.data.toList.drop k) _ _ _ (by rw [List.take_append_drop, h]; simp)
  cases ht : runGo a b o (s.data.toList.take k) with
  | none => exact absurd ht hp
  | some t =>
    obtain ⟨u, v, t⟩ := t
    have hu := go_keep2 _ _ _ _ _ _ _ hv ht
    refine ⟨u, v, t, ?_, ?_⟩
    · unfold runS; rw [if_pos ⟨hv, by simp only [List.length_take]; omega⟩]; exact ht
    · unfold runS; rw [if_pos ⟨hu.1, by simp only [List.length_drop]; omega⟩, ← go_app _ _ _ _ _ _ _ _ ht, List.take_append_drop]; exact h
end Go.Proofs.Ytejggpejmooegaa
