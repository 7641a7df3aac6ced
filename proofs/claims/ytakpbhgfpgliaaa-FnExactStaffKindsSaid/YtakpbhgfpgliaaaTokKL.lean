/-
  The walk of FnExactStaffKinds.
-/
import Derived.Test.YtakpbhgfpgliaaaTokK
namespace Go.Proofs.Ytakpbhgfpgliaaa
open Go.RowKit

set_option maxHeartbeats 1000000 in
theorem w_FnExactStaffKinds (a0 : Int) (a1 : ByteArray) (w : World) (_w0 : (Lit.int .i64 a0).wf = true) (_w1 : a1.size ≤ maxLen) :
    Calls Try.prog 12 #[.int .i64 a0, .string a1] w fun e w' => e = .returned (.bool true) ∧ Below w.heap.size w w' := by
  unfold maxLen at _w1
  clear _w0
  by_cases hs1 : 1048576 < a1.size
  · have hd1 : decide ((1048576 : Int) < (a1.size : Int)) = true := by simp; omega
    go_enter Try.func12, Try.ntmps12
    go_wp2
    go_ret
    exact ⟨rfl, by go_grown⟩
  have hd1 : decide ((1048576 : Int) < (a1.size : Int)) = false := by simp; omega
  go_enter Try.func12, Try.ntmps12
  go_wp2_with (first
    | (go_at_call 35; refine (sKinds _ _ _ (by omega)).mono ?_; rintro e w1 ⟨rfl, hn⟩; have hb : Below w.heap.size w w1 := bl (by go_grown) (Nat.le_refl _) hn; clear hn)
    | (go_at_call 36; refine (iKinds _ _ _ (by omega)).mono ?_; rintro e w1 ⟨rfl, hn⟩; have hb : Below w.heap.size w w1 := bl (by go_grown) (Nat.le_refl _) hn; clear hn))
  go_returns
  exact ⟨rfl, by go_grown⟩
end Go.Proofs.Ytakpbhgfpgliaaa
