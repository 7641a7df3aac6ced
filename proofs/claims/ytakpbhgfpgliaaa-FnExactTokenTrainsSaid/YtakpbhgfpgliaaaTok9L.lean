/-
  The walk of FnExactTokenTrains.
-/
import Derived.Test.YtakpbhgfpgliaaaTok9
import Derived.Test.YtakpbhgfpgliaaaTok3
namespace Go.Proofs.Ytakpbhgfpgliaaa
open Go.RowKit

set_option maxHeartbeats 1000000 in
theorem w_FnExactTokenTrains (a0 : ByteArray) (w : World) (_w0 : a0.size ≤ maxLen) :
    Calls Try.prog 10 #[.string a0] w fun e w' => e = .returned (.bool true) ∧ Below w.heap.size w w' := by
  unfold maxLen at _w0
  by_cases hs0 : 1048576 < a0.size
  · have hd0 : decide ((1048576 : Int) < (a0.size : Int)) = true := by simp; omega
    go_enter Try.func10, Try.ntmps10
    go_wp2
    go_ret
    exact ⟨rfl, by go_grown⟩
  have hd0 : decide ((1048576 : Int) < (a0.size : Int)) = false := by simp; omega
  go_enter Try.func10, Try.ntmps10
  go_wp2_with (first
    | (go_at_call 30; refine (sTrains _ _ (by omega)).mono ?_; rintro e w' ⟨rfl, rfl⟩)
    | (go_at_call 31; refine (iTrains _ _ (by omega)).mono ?_; rintro e w1 ⟨rfl, hn⟩; have hb : Below w.heap.size w w1 := bl (by go_grown) (Nat.le_refl _) hn; clear hn))
  go_returns
  exact ⟨rfl, by go_grown⟩
end Go.Proofs.Ytakpbhgfpgliaaa
