/-
  The walk of FnExactTokenNeeds.
-/
import Derived.Test.YtakpbhgfpgliaaaTok5
import Derived.Test.YtakpbhgfpgliaaaTok3
namespace Go.Proofs.Ytakpbhgfpgliaaa
open Go.RowKit

set_option maxHeartbeats 400000 in
theorem w_FnExactTokenNeeds (a0 : ByteArray) (w : World) (_w0 : a0.size ≤ maxLen) :
    Calls Try.prog 7 #[.string a0] w fun e w' => e = .returned (.bool true) ∧ Below w.heap.size w w' := by
  unfold maxLen at _w0
  by_cases hs : 1048576 < a0.size
  · have hd : decide ((1048576 : Int) < (a0.size : Int)) = true := by simp; omega
    go_enter Try.func7, Try.ntmps7
    go_wp2
    go_ret
    exact ⟨rfl, Below.refl _ _⟩
  have hd : decide ((1048576 : Int) < (a0.size : Int)) = false := by simp; omega
  go_enter Try.func7, Try.ntmps7
  go_wp2_with (first
    | (go_at_call 24; refine (sTokNeeds _ _ (by omega)).mono ?_; rintro e w' ⟨rfl, rfl⟩)
    | (go_at_call 25; refine (iTokNeeds _ _ (by omega)).mono ?_; rintro e w' ⟨rfl, rfl⟩))
  go_ret
  exact ⟨rfl, by go_grown⟩
end Go.Proofs.Ytakpbhgfpgliaaa
