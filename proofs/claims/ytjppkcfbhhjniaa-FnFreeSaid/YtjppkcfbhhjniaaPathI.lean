/-
  Contracts of the small functions on slices of numbers: szIntS, toIntS, eqIntS, markIntS, heldIntS.
-/
import Derived.Test.YtjppkcfbhhjniaaProg
import Derived.Test.YtjppkcfbhhjniaaK1
import Derived.Lib.Hide
import Derived.BigQuiet
import Derived.Deep.QuietTactic
import Derived.Outline
namespace Go.Proofs.Ytjppkcfbhhjniaa
open Go.RowKit
set_option linter.unusedVariables false

theorem bl {B : Nat} {w w1 w2 : World} (h : Below B w w1) (hB : B ≤ w.heap.size) (h2 : Below w1.heap.size w1 w2) : Below B w w2 :=
  h.trans (h2.mono (Nat.le_trans hB h.size))
theorem bcell {W w1 : World} (hb : Below W.heap.size W w1) : (∀ b o, b < W.heap.size → w1.cell? ⟨b, o, none⟩ = W.cell? ⟨b, o, none⟩) ∧ (∀ b o, b < W.heap.size → w1.frozen? ⟨b, o, none⟩ = W.frozen? ⟨b, o, none⟩) :=
  ⟨fun b o h => hb.cell (p := ⟨b, o, none⟩) h, fun b o h => hb.frozen (p := ⟨b, o, none⟩) h⟩
theorem intInfo : (Try.prog.info? 3).map (fun i => (i.zero, i.size, i.bytes)) = some (some (.int .i64 0), 1, 8) := by kernel_rfl
theorem int_eq {a b : Int} (h : a = b) : Value.int .i64 a = .int .i64 b := by rw [h]
/-- szIntS. -/
def szI (n : Nat) (left : Int) : Int := if left - n < 0 then -1 else left - n
theorem szI_no {n : Nat} {left : Int} (h : left - n < 0) : szI n left = -1 := if_pos h
theorem szI_yes {n : Nat} {left : Int} (h : ¬ left - n < 0) : szI n left = left - n := if_neg h
theorem cells_step (f : Nat → Int) (j k : Nat) : (if j = k then Value.int .i64 (f k) else .int .i64 (if j < k then f j else 0)) = .int .i64 (if j < k + 1 then f j else 0) := by
  by_cases e : j = k
  · subst e; rw [if_pos rfl, if_pos (by omega)]
  · rw [if_neg e]
    by_cases e2 : j < k
    · rw [if_pos e2, if_pos (by omega)]
    · rw [if_neg e2, if_neg (by omega)]
/-- eqIntS. -/
def eqI (n : Nat) (f : Nat → Int) (m : Nat) (g : Nat → Int) : Bool := decide (n = m ∧ ∀ i, i < n → f i = g i)
theorem eqI_no1 {n m : Nat} {f g : Nat → Int} (h : ¬ n = m) : eqI n f m g = false := decide_eq_false (fun x => h x.1)
theorem eqI_no2 {n m k : Nat} {f g : Nat → Int} (hk : k < n) (h : ¬ f k = g k) : eqI n f m g = false := decide_eq_false (fun x => h (x.2 k hk))
theorem eqI_yes {n : Nat} {f g : Nat → Int} (h : ∀ i, i < n → f i = g i) : eqI n f n g = true := decide_eq_true ⟨rfl, h⟩
theorem eqI_self (n : Nat) (f : Nat → Int) : eqI n f n f = true := eqI_yes (fun _ _ => rfl)
theorem below_dn {B : Nat} {a w : World} (h : Below B a w) (n : Nat) : Below B a (w.drewN n) := ⟨h.os, h.tape, h.output, h.size, h.block⟩
theorem dn_below (w : World) (B n : Nat) : Below B w (w.drewN n) := below_dn (Below.refl _ _) n
theorem drawnq {w : World} {q n : Nat} : ∃ m, (w.drewN q).drewN n = w.drewN m := ⟨_, World.drewN_drewN _ _ _⟩
theorem ne_lit {a b : Int} (h : ¬ a = b) : (a != b) = true := by simpa using h
theorem eq_lit {a b : Int} (h : a = b) : (a != b) = false := by simpa using h
theorem marks_step (f : Nat → Int) (k0 : Int) (j k : Nat) : (if j = k then k0 + (k : Int) else if j < k then k0 + (j : Int) else f j) = if j < k + 1 then k0 + (j : Int) else f j := by
  by_cases e : j = k
  · subst e; rw [if_pos rfl, if_pos (by omega)]
  · rw [if_neg e]
    by_cases e2 : j < k
    · rw [if_pos e2, if_pos (by omega)]
    · rw [if_neg e2, if_neg (by omega)]
end Go.Proofs.Ytjppkcfbhhjniaa
