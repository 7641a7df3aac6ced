/-
  Plain: the events of trains.
-/
import Derived.Test.YtejggpejmooegaaTok4P
import Derived.Test.YtejggpejmooegaaTok5P
import Derived.Lib.UnsafeStr
import Derived.Lib.AppendStr
namespace Go.Proofs.Ytejggpejmooegaa
open Go.RowKit

def trC (c : UInt8) : List UInt8 := if c = 85 then [97, 112] else [98, 112]
def trL (l : List UInt8) : List UInt8 := l.flatMap trC
def trOk (l : List UInt8) : Bool := dirsV l && decide (2 * l.length ≤ 30)
def trS (s : ByteArray) : ByteArray := if trOk s.data.toList = true then baOf (trL s.data.toList) else baOf []
theorem trOk_dir {l : List UInt8} (h : dirsV l = false) : trOk l = false := by simp [trOk, h]
theorem trOk_long {s : ByteArray} (h : 30 < 2 * s.size) : trOk s.data.toList = false := by
  have e : s.data.size = s.size := rfl
  simp only [trOk, Bool.and_eq_false_iff, decide_eq_false_iff_not, Array.length_toList]; right; omega
theorem trOk_yes {s : ByteArray} (h : dirsV s.data.toList = true) (h2 : ¬ 30 < 2 * s.size) : trOk s.data.toList = true := by
  have e : s.data.size = s.size := rfl
  simp only [trOk, h, Bool.true_and, decide_eq_true_eq, Array.length_toList]; omega
theorem trS_no {s : ByteArray} (h : trOk s.data.toList = false) : trS s = baOf [] := if_neg (by simp [h])
theorem trS_yes {s : ByteArray} (h : trOk s.data.toList = true) : trS s = baOf (trL s.data.toList) := if_pos h
theorem trL_len (l : List UInt8) : (trL l).length = 2 * l.length := by
  induction l with
  | nil => rfl
  | cons c t ih => simp only [trL, List.flatMap_cons, List.length_append, List.length_cons] at ih ⊢; rw [ih]; unfold trC; split <;> simp <;> omega
theorem tr_size (s : ByteArray) (k : Nat) : (baOf (trL (s.data.toList.take k))).size ≤ 2 * k := by
  rw [baOf_size, trL_len]; have := List.length_take_le k s.data.toList; omega
theorem tr_cells (s : ByteArray) (k : Nat) : (Lib.byteCells (trL (s.data.toList.take k))).length ≤ 2 * k := by
  rw [Lib.byteCells_length, trL_len]; have := List.length_take_le k s.data.toList; omega
theorem tr_step (s : ByteArray) (k : Nat) (h : k < s.size) : trL (s.data.toList.take (k + 1)) = trL (s.data.toList.take k) ++ trC s[k] := by
  rw [take_snoc s k h]; simp [trL]
theorem trC_u {c : UInt8} (h : (c.toNat : Int) = 85) : trC c = [97, 112] := if_pos (is85 h)
theorem trC_d {c : UInt8} (h : ¬ (c.toNat : Int) = 85) : trC c = [98, 112] := if_neg (not85 h)
theorem baOf_app (l m : List UInt8) : baOf l ++ baOf m = baOf (l ++ m) := by
  simp only [baOf, ← ByteArray.append_eq]
  apply ByteArray.ext; simp
theorem tr_u (s : ByteArray) (k : Nat) (h : k < s.size) (hc : (s[k].toNat : Int) = 85) : baOf (trL (s.data.toList.take k)) ++ { data := #[97, 112] } = baOf (trL (s.data.toList.take (k + 1))) := by
  rw [tr_step s k h, trC_u hc, ← baOf_app]; rfl
theorem tr_d (s : ByteArray) (k : Nat) (h : k < s.size) (hc : ¬ (s[k].toNat : Int) = 85) : baOf (trL (s.data.toList.take k)) ++ { data := #[98, 112] } = baOf (trL (s.data.toList.take (k + 1))) := by
  rw [tr_step s k h, trC_d hc, ← baOf_app]; rfl
theorem tr_all (s : ByteArray) : baOf (trL (s.data.toList.take s.size)) = baOf (trL s.data.toList) := by rw [take_all]
theorem trb_u (s : ByteArray) (k : Nat) (h : k < s.size) (hc : (s[k].toNat : Int) = 85) : Lib.byteCells (trL (s.data.toList.take k)) ++ Lib.strCells { data := #[97, 112] } = Lib.byteCells (trL (s.data.toList.take (k + 1))) := by
  rw [tr_step s k h, trC_u hc, Lib.byteCells_append, Lib.strCells_eq]
theorem trb_d (s : ByteArray) (k : Nat) (h : k < s.size) (hc : ¬ (s[k].toNat : Int) = 85) : Lib.byteCells (trL (s.data.toList.take k)) ++ Lib.strCells { data := #[98, 112] } = Lib.byteCells (trL (s.data.toList.take (k + 1))) := by
  rw [tr_step s k h, trC_d hc, Lib.byteCells_append, Lib.strCells_eq]
theorem trb_zero (s : ByteArray) : Lib.byteCells (trL (s.data.toList.take 0)) = [] := rfl
end Go.Proofs.Ytejggpejmooegaa
