/-
  Contracts of RegisterValid.
-/
import Derived.Test.YtanfhgliilkhjaaRegF
namespace Go.Proofs.Ytanfhgliilkhjaa
open Go.RowKit Go.Deep
set_option linter.unusedVariables false

set_option maxHeartbeats 1000000 in
theorem iRegV (v : Bool) (A : Option Addr) (m c : Nat) (N : Nat → ND) (w : World) (h : NsRn w w.heap.size A m N) (hm : m ≤ 1099511627776) (hv : regV N m = v) :
    Calls Try.prog 25 #[.slice A m c] w fun e w' => e = .returned (.bool v) ∧ Below w.heap.size w w' := by
  have H := Lib.hid h
  have V := Lib.hid hv
  clear h hv
  go_enter Try.func25, Try.ntmps25
  go_wp2_with fail
  refine (iRegOf v A m c N _ H.out (by omega) V.out).mono ?_
  rintro e w1 ⟨bs, rfl, hR, hb1⟩
  clear hR
  go_wp2
  go_ret
  exact ⟨rfl, hb1⟩
/-- What both RegisterValid give. -/
theorem d_RegValid (m : Nat) (N : Nat → ND) (hm : m ≤ 1048576) : ∃ ok : Bool,
    (∀ (W : World) (g d : Nat), m ≤ d → NsRn W W.heap.size (some ⟨g, 0, none⟩) m N → Calls Try.prog 23 #[.slice (some ⟨g, 0, none⟩) m d] W fun e w' => e = .returned (.bool ok) ∧ Below W.heap.size W w') ∧
    (∀ (W : World) (g d : Nat), m ≤ d → NsRn W W.heap.size (some ⟨g, 0, none⟩) m N → Calls Try.prog 25 #[.slice (some ⟨g, 0, none⟩) m d] W fun e w' => e = .returned (.bool ok) ∧ Below W.heap.size W w') :=
  ⟨regV N m, fun W g d _ h => (sRegV _ m d N W h (by omega)).mono fun e w' ⟨h1, h2⟩ => ⟨h1, by rw [h2]; exact Below.refl _ _⟩, fun W g d _ h => iRegV _ _ m d N W h (by omega) rfl⟩
end Go.Proofs.Ytanfhgliilkhjaa
