/-
  Contract of the program's TokenMany, for all arguments; the walk of FnExactTokenMany.
-/
import Derived.Test.YtejggpejmooegaaTokMI
namespace Go.Proofs.Ytejggpejmooegaa
open Go.RowKit Go.Deep Go.Maps Go.WideMaps
set_option linter.unusedVariables false

set_option maxRecDepth 200000 in
set_option maxHeartbeats 4000000 in
theorem iMany (a b o n : Int) (w : World) (v : Int) (hv : Hid (ManyV a b o n v)) :
    Calls Try.prog 35 #[.agg #[.int .i64 a, .int .i64 b, .int .i64 o], .int .i64 n] w fun e w' => e = .returned (.int .i64 v) ∧ Below w.heap.size w w' := by
  cases ht : tokV a b o
  · have hT := Lib.hid ht
    obtain rfl : v = -1 := by
      rcases hv.out with h | h
      · have := h.1.1; rw [ht] at this; cases this
      · exact h.2
    clear ht hv
    go_enter Try.func35, Try.ntmps35
    go_wp2_with fail
    refine (iTokVv _ _ _ _ hT.out _).mono ?_
    rintro e w1 ⟨rfl, hn1⟩
    have HB : Hid (Below w.heap.size w w1) := belowT (by go_grown) (Nat.le_refl _) hn1
    clear hn1
    go_wp2
    go_ret
    exact ⟨rfl, HB.out⟩
  by_cases hn : 0 ≤ n ∧ n ≤ 30
  · have hvv : v = (many n.toNat (a, b, o) : Int) := by
      rcases hv.out with h | h
      · exact h.2
      · exact absurd ⟨ht, hn⟩ h.1
    subst hvv
    obtain ⟨N, rfl⟩ := Int.eq_ofNat_of_zero_le hn.1
    exact iManyV a b o N _ w ht (by omega) rfl
  · have hT := Lib.hid ht
    obtain rfl : v = -1 := by
      rcases hv.out with h | h
      · exact absurd h.1.2 hn
      · exact h.2
    by_cases h0 : n < 0
    · have d0 : decide (n < 0) = true := decide_eq_true h0
      clear ht hv hn
      go_enter Try.func35, Try.ntmps35
      go_wp2_with fail
      refine (iTokVv _ _ _ _ hT.out _).mono ?_
      rintro e w1 ⟨rfl, hn1⟩
      have HB : Hid (Below w.heap.size w w1) := belowT (by go_grown) (Nat.le_refl _) hn1
      clear hn1
      go_wp2
      go_ret
      exact ⟨rfl, HB.out⟩
    · have d0 : decide (n < 0) = false := decide_eq_false h0
      have d1 : decide (30 < n) = true := decide_eq_true (by omega)
      clear ht hv hn
      go_enter Try.func35, Try.ntmps35
      go_wp2_with fail
      refine (iTokVv _ _ _ _ hT.out _).mono ?_
      rintro e w1 ⟨rfl, hn1⟩
      have HB : Hid (Below w.heap.size w w1) := belowT (by go_grown) (Nat.le_refl _) hn1
      clear hn1
      go_wp2
      go_ret
      exact ⟨rfl, HB.out⟩
theorem manyV_any (a b o n : Int) : ∃ v, ManyV a b o n v := by
  by_cases h : okM a b o n
  · exact ⟨_, .inl ⟨h, rfl⟩⟩
  · exact ⟨_, .inr ⟨h, rfl⟩⟩
set_option maxHeartbeats 1000000 in
theorem w_FnExactTokenMany (a0 b0 o0 : Int) (a1 : Int) (w : World) (_wa0 : (Lit.int .i64 a0).wf = true) (_wb0 : (Lit.int .i64 b0).wf = true) (_wo0 : (Lit.int .i64 o0).wf = true) (_w1 : (Lit.int .i64 a1).wf = true) :
    Calls Try.prog 8 #[.agg #[.int .i64 a0, .int .i64 b0, .int .i64 o0], .int .i64 a1] w fun e w' => e = .returned (.bool true) ∧ Below w.heap.size w w' := by
  clear _wa0 _wb0 _wo0 _w1
  obtain ⟨v, hv⟩ := manyV_any a0 b0 o0 a1
  have HV := Lib.hid hv
  clear hv
  go_enter Try.func8, Try.ntmps8
  go_wp2_with (first
    | (go_at_call 34; refine (toTok _ _ _ _).mono ?_; rintro e w1 ⟨rfl, hn⟩; have hb : Below w.heap.size w w1 := bl (by go_grown) (Nat.le_refl _) hn; obtain ⟨hc, hf⟩ := bcell hn; (try simp only [World.size_drew, World.cell?_drew, World.frozen?_drew] at hc hf); have hz : w.heap.size < w1.heap.size := (by have hsz := hn.size; (try simp at hsz); omega); clear hn)
    | (go_at_call 33; refine (sMany _ _ _ _ _ v HV).mono ?_; rintro e w1 ⟨rfl, hn⟩; have hb : Below w.heap.size w w1 := bl (by go_grown) (Nat.le_refl _) hn; obtain ⟨hc, hf⟩ := bcell hn; (try simp only [World.size_drew, World.cell?_drew, World.frozen?_drew] at hc hf); have hz : w.heap.size < w1.heap.size := (by have hsz := hn.size; (try simp at hsz); omega); clear hn)
    | (go_at_call 35; refine (iMany _ _ _ _ _ v HV).mono ?_; rintro e w1 ⟨rfl, hn⟩; have hb : Below w.heap.size w w1 := bl (by go_grown) (Nat.le_refl _) hn; obtain ⟨hc, hf⟩ := bcell hn; (try simp only [World.size_drew, World.cell?_drew, World.frozen?_drew] at hc hf); have hz : w.heap.size < w1.heap.size := (by have hsz := hn.size; (try simp at hsz); omega); clear hn))
  go_returns
  exact ⟨rfl, by go_grown⟩
end Go.Proofs.Ytejggpejmooegaa
