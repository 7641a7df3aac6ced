/-
  Contracts in the form in which the laws on PathsFit and PathsAdd use them.
-/
import Derived.Test.YtjppkcfbhhjniaaPathFm
import Derived.Test.YtjppkcfbhhjniaaPathMk
import Derived.Test.YtjppkcfbhhjniaaK1
namespace Go.Proofs.Ytjppkcfbhhjniaa
open Go.RowKit
set_option linter.unusedVariables false

theorem Hold.ow {W : World} {l : List Atom} {lo hi n : Nat} {A : Option Addr} {f : Nat → Int} (h : Hold W l) (hB : hi ≤ W.heap.size) (hr : ∃ b, (0 < n → lo ≤ b ∧ b < hi) ∧ Ow W b A n f) : Hold W (owA lo hi A n f :: l) := h.cons (owA_ok _ _ _ _ _) hB hr
theorem Hold.owrn {W : World} {l : List Atom} {lo hi n : Nat} {A : Option Addr} {f : Nat → Int} (h : Hold W (owA lo hi A n f :: l)) : Rn W W.heap.size A n f := by
  have h2 : hi ≤ W.heap.size := h.hi
  obtain ⟨b, hb, ho⟩ : ∃ b, (0 < n → lo ≤ b ∧ b < hi) ∧ Ow W b A n f := h.hd
  intro hn
  have := hb hn
  exact ho.rn (by omega) hn
end Go.Proofs.Ytjppkcfbhhjniaa
