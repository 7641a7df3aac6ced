/-
  Walks of the law over DirectionsChanges.
-/
import Derived.Test.YtakpbhgfpgliaaaTok2
import Derived.Test.YtakpbhgfpgliaaaTok3
namespace Go.Proofs.Ytakpbhgfpgliaaa
open Go.RowKit

set_option maxHeartbeats 400000 in
theorem w_FnExactDirectionsChanges (a0 : ByteArray) (w : World) (_w0 : a0.size ≤ maxLen) :
    Calls Try.prog 5 #[.string a0] w fun e w' => e = .returned (.bool true) ∧ Below w.heap.size w w' := by
  unfold maxLen at _w0
  by_cases hs : 1048576 < a0.size
  · have hd : decide ((1048576 : Int) < (a0.size : Int)) = true := by simp; omega
    go_enter Try.func5, Try.ntmps5
    go_wp2
    go_ret
    exact ⟨rfl, Below.refl _ _⟩
  have hd : decide ((1048576 : Int) < (a0.size : Int)) = false := by simp; omega
  go_enter Try.func5, Try.ntmps5
  go_wp2_with (first
    | (go_at_call 20; refine (sDirsC _ _ (by omega)).mono ?_; rintro e w1 ⟨rfl, hb1⟩)
    | (go_at_call 21; refine (iDirsC _ _ (by omega)).mono ?_; rintro e w2 ⟨rfl, hb2⟩))
  go_ret
  exact ⟨rfl, bl hb1 (Nat.le_refl _) hb2⟩
end Go.Proofs.Ytakpbhgfpgliaaa
