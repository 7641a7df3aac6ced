/-
  Walks of laws over the state of tokens.
-/
import Derived.Test.YtakpbhgfpgliaaaTok3
namespace Go.Proofs.Ytakpbhgfpgliaaa
open Go.RowKit

set_option maxHeartbeats 400000 in
theorem w_FnExactTokenValid (a b o : Int) (w : World) (_ : (Lit.int .i64 a).wf = true) (_ : (Lit.int .i64 b).wf = true) (_ : (Lit.int .i64 o).wf = true) :
    Calls Try.prog 4 #[.agg #[.int .i64 a, .int .i64 b, .int .i64 o]] w fun e w' => e = .returned (.bool true) ∧ Below w.heap.size w w' := by
  go_enter Try.func4, Try.ntmps4
  go_wp2_with (first
    | (go_at_call 18; refine (toTok _ _ _ _).mono ?_; rintro e w1 ⟨rfl, hn⟩; have hb : Below w.heap.size w w1 := bl (by go_grown) (Nat.le_refl _) hn; obtain ⟨hc, hf⟩ := bcell hn; have hz : w.heap.size < w1.heap.size := (by have hsz := hn.size; (try simp at hsz); omega); clear hn)
    | (go_at_call 17; refine (sTokV _ _ _ _).mono ?_; rintro e w1 ⟨rfl, hn⟩; have hb : Below w.heap.size w w1 := bl (by go_grown) (Nat.le_refl _) hn; obtain ⟨hc, hf⟩ := bcell hn; have hz : w.heap.size < w1.heap.size := (by have hsz := hn.size; (try simp at hsz); omega); clear hn)
    | (go_at_call 19; refine (iTokV _ _ _ _).mono ?_; rintro e w1 ⟨rfl, hn⟩; have hb : Below w.heap.size w w1 := bl (by go_grown) (Nat.le_refl _) hn; obtain ⟨hc, hf⟩ := bcell hn; have hz : w.heap.size < w1.heap.size := (by have hsz := hn.size; (try simp at hsz); omega); clear hn))
  go_returns
  exact ⟨rfl, by go_grown⟩
end Go.Proofs.Ytakpbhgfpgliaaa
