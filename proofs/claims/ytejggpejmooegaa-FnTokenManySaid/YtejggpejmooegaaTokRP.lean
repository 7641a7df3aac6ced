/-
  Plain: runs of tokens.
-/
import Derived.Test.YtejggpejmooegaaTokU
namespace Go.Proofs.Ytejggpejmooegaa
open Go.RowKit

theorem stepO_valid {a b o : Int} {c : UInt8} {a' b' o' : Int} (h : tokV a b o = true) (e : stepO a b o c = some (a', b', o')) : tokV a' b' o' = true := by
  rw [tokV_iff] at h ⊢
  unfold stepO at e
  split at e
  · simp only [Option.some.injEq, Prod.mk.injEq] at e; omega
  split at e
  · simp only [Option.some.injEq, Prod.mk.injEq] at e; omega
  split at e
  · simp only [Option.some.injEq, Prod.mk.injEq] at e; omega
  split at e
  · simp only [Option.some.injEq, Prod.mk.injEq] at e; omega
  · cases e
/-- Event by event. -/
def runGo : Int → Int → Int → List UInt8 → Option Tk
  | a, b, o, [] => some (a, b, o)
  | a, b, o, c :: r => match stepO a b o c with
    | none => none
    | some (x, y, z) => runGo x y z r
def runS (a b o : Int) (l : List UInt8) : Option Tk := if tokV a b o = true ∧ l.length ≤ 30 then runGo a b o l else none
theorem runS_v {a b o : Int} {l : List UInt8} (h : tokV a b o = false) : runS a b o l = none := if_neg (fun x => by rw [h] at x; exact absurd x.1 (by simp))
theorem runS_len {a b o : Int} {s : ByteArray} (h : 30 < s.size) : runS a b o s.data.toList = none := if_neg (fun x => by
  have := x.2
  simp only [Array.length_toList] at this
  have e : s.data.size = s.size := rfl
  omega)
theorem runS_go {a b o : Int} {s : ByteArray} (h : tokV a b o = true) (h2 : s.size ≤ 30) : runS a b o s.data.toList = runGo a b o s.data.toList := if_pos ⟨h, by simpa using h2⟩
theorem run_end (a b o : Int) (s : ByteArray) : runGo a b o (s.data.toList.drop s.size) = some (a, b, o) := by
  rw [List.drop_of_length_le (by simp)]; rfl
theorem run_no (a b o : Int) (s : ByteArray) (k : Nat) (h : k < s.size) (e : stepO a b o s[k] = none) : runGo a b o (s.data.toList.drop k) = none := by
  rw [drop_at s k h]; simp only [runGo, e]
theorem run_yes (a b o x y z : Int) (s : ByteArray) (k : Nat) (h : k < s.size) (e : stepO a b o s[k] = some (x, y, z)) : runGo a b o (s.data.toList.drop k) = runGo x y z (s.data.toList.drop (k + 1)) := by
  rw [drop_at s k h]; simp only [runGo, e]
theorem tok_bd {a b o : Int} (h : tokV a b o = true) : (0 ≤ a ∧ a ≤ 12 ∧ 0 ≤ b ∧ b ≤ 12) ∧ 0 ≤ o ∧ o ≤ 2 := by
  have := tokV_iff.1 h; omega
end Go.Proofs.Ytejggpejmooegaa
