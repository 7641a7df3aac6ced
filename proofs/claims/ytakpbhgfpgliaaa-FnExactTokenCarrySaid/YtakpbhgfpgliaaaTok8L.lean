/-
  The walk of FnExactTokenCarry.
-/
import Derived.Test.YtakpbhgfpgliaaaTok8
namespace Go.Proofs.Ytakpbhgfpgliaaa
open Go.RowKit

set_option maxHeartbeats 1000000 in
theorem w_FnExactTokenCarry (a0 b0 o0 : Int) (a1 : ByteArray) (w : World) (_wa0 : (Lit.int .i64 a0).wf = true) (_wb0 : (Lit.int .i64 b0).wf = true) (_wo0 : (Lit.int .i64 o0).wf = true) (_w1 : a1.size ≤ maxLen) :
    Calls Try.prog 14 #[.agg #[.int .i64 a0, .int .i64 b0, .int .i64 o0], .string a1] w fun e w' => e = .returned (.bool true) ∧ Below w.heap.size w w' := by
  unfold maxLen at _w1
  clear _wa0 _wb0 _wo0
  by_cases hs1 : 1048576 < a1.size
  · have hd1 : decide ((1048576 : Int) < (a1.size : Int)) = true := by simp; omega
    go_enter Try.func14, Try.ntmps14
    go_wp2
    go_ret
    exact ⟨rfl, by go_grown⟩
  have hd1 : decide ((1048576 : Int) < (a1.size : Int)) = false := by simp; omega
  go_enter Try.func14, Try.ntmps14
  go_wp2_with (first
    | (go_at_call 18; refine (toTok _ _ _ _).mono ?_; rintro e w1 ⟨rfl, hn⟩; have hb : Below w.heap.size w w1 := bl (by go_grown) (Nat.le_refl _) hn; obtain ⟨hc, hf⟩ := bcell hn; have hz : w.heap.size < w1.heap.size := (by have hsz := hn.size; (try simp at hsz); omega); clear hn)
    | (go_at_call 39; refine (sCarry _ _ _ _ _ (by omega)).mono ?_; rintro e w1 ⟨rfl, hn⟩; have hb : Below w.heap.size w w1 := bl (by go_grown) (Nat.le_refl _) hn; obtain ⟨hc, hf⟩ := bcell hn; have hz : w.heap.size < w1.heap.size := (by have hsz := hn.size; (try simp at hsz); omega); clear hn)
    | (go_at_call 40; refine (iCarry _ _ _ _ _ (by omega)).mono ?_; rintro e w1 ⟨rfl, hn⟩; have hb : Below w.heap.size w w1 := bl (by go_grown) (Nat.le_refl _) hn; obtain ⟨hc, hf⟩ := bcell hn; have hz : w.heap.size < w1.heap.size := (by have hsz := hn.size; (try simp at hsz); omega); clear hn))
  go_returns
  exact ⟨rfl, by go_grown⟩
end Go.Proofs.Ytakpbhgfpgliaaa
