/-
  The walk of FnExactStaffRun.
-/
import Derived.Test.YtakpbhgfpgliaaaTok7
namespace Go.Proofs.Ytakpbhgfpgliaaa
open Go.RowKit

set_option maxHeartbeats 1000000 in
theorem w_FnExactStaffRun (a0 : Int) (a1 : ByteArray) (a2 : ByteArray) (w : World) (_w0 : (Lit.int .i64 a0).wf = true) (_w1 : a1.size ≤ maxLen) (_w2 : a2.size ≤ maxLen) :
    Calls Try.prog 9 #[.int .i64 a0, .string a1, .string a2] w fun e w' => e = .returned (.bool true) ∧ Below w.heap.size w w' := by
  unfold maxLen at _w1 _w2
  clear _w0
  by_cases hs1 : 1048576 < a1.size
  · have hd1 : decide ((1048576 : Int) < (a1.size : Int)) = true := by simp; omega
    go_enter Try.func9, Try.ntmps9
    go_wp2
    go_ret
    exact ⟨rfl, by go_grown⟩
  have hd1 : decide ((1048576 : Int) < (a1.size : Int)) = false := by simp; omega
  by_cases hs2 : 1048576 < a2.size
  · have hd2 : decide ((1048576 : Int) < (a2.size : Int)) = true := by simp; omega
    go_enter Try.func9, Try.ntmps9
    go_wp2
    go_ret
    exact ⟨rfl, by go_grown⟩
  have hd2 : decide ((1048576 : Int) < (a2.size : Int)) = false := by simp; omega
  go_enter Try.func9, Try.ntmps9
  go_wp2_with (first
    | (go_at_call 28; refine (sStaffR _ _ _ _ (by omega) (by omega)).mono ?_; rintro e w' ⟨rfl, rfl⟩)
    | (go_at_call 29; refine (iStaffR _ _ _ _ (by omega) (by omega)).mono ?_; rintro e w' ⟨rfl, rfl⟩))
  go_returns
  exact ⟨rfl, by go_grown⟩
end Go.Proofs.Ytakpbhgfpgliaaa
