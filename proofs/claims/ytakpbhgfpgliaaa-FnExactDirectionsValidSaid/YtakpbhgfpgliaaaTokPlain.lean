/-
  Plain functions on lists of bytes and numbers, beside the chapter on tokens and staffs, and their laws. No program in sight.
-/
import Derived.WalkKit
namespace Go.Proofs.Ytakpbhgfpgliaaa
open Go.RowKit

theorem ret_int {k : IntKind} {a b : Int} (h : a = b) : Ending.returned (.int k a) = .returned (.int k b) := by rw [h]
theorem ret_bool {a b : Bool} (h : a = b) : Ending.returned (.bool a) = .returned (.bool b) := by rw [h]
theorem hide {p : Prop} (h : p) : Hid p := h

/-- A byte that is U or D. -/
def isUD (c : UInt8) : Bool := c == 85 || c == 68
/-- A text that are directions. -/
def dirsV (l : List UInt8) : Bool := decide (l.length ≤ 30) && l.all isUD

theorem take_snoc (s : ByteArray) (k : Nat) (h : k < s.size) : s.data.toList.take (k + 1) = s.data.toList.take k ++ [s[k]] := by
  rw [List.take_succ_eq_append_getElem (by simpa using h)]; rfl
theorem take_all (s : ByteArray) : s.data.toList.take s.size = s.data.toList := List.take_of_length_le (by simp)

theorem isUD_iff (c : UInt8) : isUD c = true ↔ ((c.toNat : Int) = 85 ∨ (c.toNat : Int) = 68) := by
  unfold isUD
  simp only [Bool.or_eq_true, beq_iff_eq, ← UInt8.toNat_inj, UInt8.reduceToNat]
  omega
theorem isUD_no (c : UInt8) (h : ¬ ((c.toNat : Int) = 85 ∨ (c.toNat : Int) = 68)) : isUD c = false := by
  rw [← isUD_iff] at h; simpa using h
theorem mem_at {s : ByteArray} {k : Nat} (h : k < s.size) : s[k] ∈ s.data.toList := by
  have : s[k] = s.data.toList[k]'(by simpa using h) := rfl
  rw [this]; exact List.getElem_mem _
theorem ud_step {s : ByteArray} {k : Nat} (h : k < s.size) (hU : Hid ((s.data.toList.take k).all isUD = true)) (hc : (s[k].toNat : Int) = 85 ∨ (s[k].toNat : Int) = 68) : Hid ((s.data.toList.take (k + 1)).all isUD = true) := by
  rw [take_snoc s k h]
  have h1 : (s.data.toList.take k).all isUD = true := hU
  have h2 := (isUD_iff s[k]).2 hc
  simp only [Hid, List.all_append, h1, List.all_cons, h2, List.all_nil, Bool.and_self]
theorem ud_no {s : ByteArray} {k : Nat} (h : k < s.size) (hc : ¬ ((s[k].toNat : Int) = 85 ∨ (s[k].toNat : Int) = 68)) : dirsV s.data.toList = false := by
  unfold dirsV
  rw [Bool.and_eq_false_iff]; right
  rw [List.all_eq_false]
  exact ⟨_, mem_at h, by simp [isUD_no _ hc]⟩
theorem ud_all {s : ByteArray} (hU : Hid ((s.data.toList.take s.size).all isUD = true)) : dirsV s.data.toList = decide ((s.size : Int) ≤ 30) := by
  have h1 : (s.data.toList.take s.size).all isUD = true := hU
  rw [take_all] at h1
  unfold dirsV
  rw [h1, Bool.and_true]
  have : s.data.toList.length = s.size := by simp
  rw [this]; congr 1; simp; omega
theorem ud_long {s : ByteArray} (h : 30 < s.size) : dirsV s.data.toList = false := by
  unfold dirsV
  have : s.data.toList.length = s.size := by simp
  rw [this]; simp; omega
end Go.Proofs.Ytakpbhgfpgliaaa
