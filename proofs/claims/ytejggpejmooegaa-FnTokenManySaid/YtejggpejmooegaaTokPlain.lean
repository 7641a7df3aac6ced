/-
  Plain functions on lists of bytes and numbers, beside the chapter on tokens and staffs, and their laws. No program in sight.
-/
import Derived.WalkKit
namespace Go.Proofs.Ytejggpejmooegaa
open Go.RowKit

theorem ret_int {k : IntKind} {a b : Int} (h : a = b) : Ending.returned (.int k a) = .returned (.int k b) := by rw [h]
theorem ret_bool {a b : Bool} (h : a = b) : Ending.returned (.bool a) = .returned (.bool b) := by rw [h]
theorem hide {p : Prop} (h : p) : Hid p := h

/-- A byte that is U or D. -/
def isUD (c : UInt8) : Bool := c == 85 || c == 68
/-- A text that are directions. -/
def dirsV (l : List UInt8) : Bool := decide (l.length ≤ 30) && l.all isUD

theorem take_snoc (s : ByteArray) (k : Nat) (h : k < s.size) : s.data.toList.take (k + 1) = s.data.toList.take k ++ [s[k]] := by
  rw [List.take_succ_eq_append_getElem (by simpa using h)]; rfl
theorem take_all (s : ByteArray) : s.data.toList.take s.size = s.data.toList := List.take_of_length_le (by simp)

theorem isUD_iff (c : UInt8) : isUD c = true ↔ ((c.toNat : Int) = 85 ∨ (c.toNat : Int) = 68) := by
  unfold isUD
  simp only [Bool.or_eq_true, beq_iff_eq, ← UInt8.toNat_inj, UInt8.reduceToNat]
  omega
theorem isUD_no (c : UInt8) (h : ¬ ((c.toNat : Int) = 85 ∨ (c.toNat : Int) = 68)) : isUD c = false := by
  rw [← isUD_iff] at h; simpa using h
theorem mem_at {s : ByteArray} {k : Nat} (h : k < s.size) : s[k] ∈ s.data.toList := by
  have : s[k] = s.data.toList[k]'(by simpa using h) := rfl
  rw [this]; exact List.getElem_mem _
theorem ud_step {s : ByteArray} {k : Nat} (h : k < s.size) (hU : Hid ((s.data.toList.take k).all isUD = true)) (hc : (s[k].toNat : Int) = 85 ∨ (s[k].toNat : Int) = 68) : Hid ((s.data.toList.take (k + 1)).all isUD = true) := by
  rw [take_snoc s k h]
  have h1 : (s.data.toList.take k).all isUD = true := hU
  have h2 := (isUD_iff s[k]).2 hc
  simp only [Hid, List.all_append, h1, List.all_cons, h2, List.all_nil, Bool.and_self]
theorem ud_no {s : ByteArray} {k : Nat} (h : k < s.size) (hc : ¬ ((s[k].toNat : Int) = 85 ∨ (s[k].toNat : Int) = 68)) : dirsV s.data.toList = false := by
  unfold dirsV
  rw [Bool.and_eq_false_iff]; right
  rw [List.all_eq_false]
  exact ⟨_, mem_at h, by simp [isUD_no _ hc]⟩
theorem ud_all {s : ByteArray} (hU : Hid ((s.data.toList.take s.size).all isUD = true)) : dirsV s.data.toList = decide ((s.size : Int) ≤ 30) := by
  have h1 : (s.data.toList.take s.size).all isUD = true := hU
  rw [take_all] at h1
  unfold dirsV
  rw [h1, Bool.and_true]
  have : s.data.toList.length = s.size := by simp
  rw [this]; congr 1; simp; omega
theorem ud_long {s : ByteArray} (h : 30 < s.size) : dirsV s.data.toList = false := by
  unfold dirsV
  have : s.data.toList.length = s.size := by simp
  rw [this]; simp; omega
theorem dirs_len {s : ByteArray} (h : dirsV s.data.toList = true) : s.size ≤ 30 := by
  unfold dirsV at h
  have : s.data.toList.length = s.size := by simp
  rw [this] at h; simp at h; omega
theorem dirs_at {s : ByteArray} (h : dirsV s.data.toList = true) {k : Nat} (hk : k < s.size) : (s[k].toNat : Int) = 85 ∨ (s[k].toNat : Int) = 68 := by
  unfold dirsV at h
  simp only [Bool.and_eq_true, List.all_eq_true] at h
  exact (isUD_iff _).1 (h.2 _ (mem_at hk))

/-- How often the letter changes. -/
def chg : List UInt8 → Nat
  | a :: b :: r => (if a = b then 0 else 1) + chg (b :: r)
  | _ => 0
theorem chg_snoc (l : List UInt8) (a b : UInt8) : chg (l ++ [a, b]) = chg (l ++ [a]) + if a = b then 0 else 1 := by
  induction l with
  | nil => simp [chg]
  | cons x t ih =>
    cases t with
    | nil => simp [chg]
    | cons y t => simp only [List.cons_append, chg] at ih ⊢; rw [ih]; omega
theorem chg_le (l : List UInt8) : chg l ≤ l.length := by
  induction l with
  | nil => simp [chg]
  | cons x t ih =>
    cases t with
    | nil => simp [chg]
    | cons y t => simp only [chg, List.length_cons] at ih ⊢; split <;> omega
theorem chg_take (s : ByteArray) (k : Nat) (h : k + 1 < s.size) : chg (s.data.toList.take (k + 2)) = chg (s.data.toList.take (k + 1)) + if s[k] = s[k + 1] then 0 else 1 := by
  rw [take_snoc s (k + 1) h, take_snoc s k (by omega), List.append_assoc]
  exact chg_snoc _ _ _
theorem chg_all (s : ByteArray) (k : Nat) (h : s.size ≤ k) : chg (s.data.toList.take k) = chg s.data.toList := by
  rw [List.take_of_length_le (by simpa using h)]
/-- DirectionsChanges. -/
def chgZ (l : List UInt8) : Int := if dirsV l = true then (chg l : Int) else -1
theorem chgZ_yes {l : List UInt8} (h : dirsV l = true) : chgZ l = chg l := if_pos h
theorem chgZ_no {l : List UInt8} (h : dirsV l = false) : chgZ l = -1 := if_neg (by simp [h])
theorem chg_none (l : List UInt8) : chg (l.take 1) = 0 := by
  cases l <;> simp [chg]
theorem byte_eq {a b : UInt8} (h : a = b) : ((a.toNat : Int) != (b.toNat : Int)) = false := by subst h; simp
theorem byte_ne {a b : UInt8} (h : ¬ a = b) : ((a.toNat : Int) != (b.toNat : Int)) = true := by
  rw [bne_iff_ne]; intro e; apply h; rw [← UInt8.toNat_inj]; omega
end Go.Proofs.Ytejggpejmooegaa
