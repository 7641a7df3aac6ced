/-
  The walk of FnChanges: changes are counted in parts.
-/
import Derived.Test.YtejggpejmooegaaTok2
import Derived.Test.YtejggpejmooegaaTok3
import Derived.Test.YtejggpejmooegaaDraw2
import Derived.Lib.Strings
import Derived.Test.YtejggpejmooegaaTok6P
namespace Go.Proofs.Ytejggpejmooegaa
open Go.RowKit

theorem below_dn {B : Nat} {a w : World} (h : Below B a w) (n : Nat) : Below B a (w.drewN n) := ⟨h.os, h.tape, h.output, h.size, h.block⟩
theorem chg_app : ∀ (l m : List UInt8), chg (l ++ m) = chg l + chg m + (match l.getLast?, m with | some a, b :: _ => if a = b then 0 else 1 | _, _ => 0)
  | [], m => by simp [chg]
  | [a], [] => by simp [chg]
  | [a], b :: r => by simp [chg]; omega
  | a :: b :: r, m => by
    have ih := chg_app (b :: r) m
    simp only [List.cons_append, chg] at ih ⊢
    rw [ih]
    have e : (a :: b :: r).getLast? = (b :: r).getLast? := by simp [List.getLast?_cons_cons]
    rw [e]; omega
theorem ext_take (s : ByteArray) (k : Nat) : (s.extract 0 k).data.toList = s.data.toList.take k := by
  rw [Lib.extract_data]; simp
theorem ext_drop (s : ByteArray) (k : Nat) : (s.extract k s.size).data.toList = s.data.toList.drop k := by
  rw [Lib.extract_data, List.take_of_length_le (by simp)]
theorem dirs_take {l : List UInt8} (h : dirsV l = true) (k : Nat) : dirsV (l.take k) = true := by
  unfold dirsV at h ⊢
  simp only [Bool.and_eq_true, decide_eq_true_eq, List.all_eq_true] at h ⊢
  exact ⟨by have := List.length_take_le k l; rw [List.length_take]; omega, fun x hx => h.2 x (List.mem_of_mem_take hx)⟩
theorem dirs_drop {l : List UInt8} (h : dirsV l = true) (k : Nat) : dirsV (l.drop k) = true := by
  unfold dirsV at h ⊢
  simp only [Bool.and_eq_true, decide_eq_true_eq, List.all_eq_true] at h ⊢
  exact ⟨by rw [List.length_drop]; omega, fun x hx => h.2 x (List.mem_of_mem_drop hx)⟩
/-- The three counts. -/
theorem chg_cut {s : ByteArray} (hv : dirsV s.data.toList = true) (k : Nat) :
    ((chg s.data.toList : Nat) : Int) = chgZ (s.extract 0 k).data.toList + chgZ (s.extract k s.size).data.toList + (match (s.data.toList.take k).getLast?, s.data.toList.drop k with | some a, b :: _ => if a = b then 0 else 1 | _, _ => 0) := by
  rw [ext_take, ext_drop, chgZ_yes (dirs_take hv k), chgZ_yes (dirs_drop hv k)]
  have := chg_app (s.data.toList.take k) (s.data.toList.drop k)
  rw [List.take_append_drop] at this
  rw [this]
  generalize chg (s.data.toList.take k) = x
  generalize chg (s.data.toList.drop k) = y
  split
  · split <;> simp
  · simp
theorem last_take (s : ByteArray) (k : Nat) (h : k < s.size) : (s.data.toList.take (k + 1)).getLast? = some s[k] := by
  rw [take_snoc s k h]; simp
theorem cut_zero {s : ByteArray} (hv : dirsV s.data.toList = true) : ((chg s.data.toList : Nat) : Int) = chgZ (s.extract 0 0).data.toList + chgZ (s.extract 0 s.size).data.toList := by
  have := chg_cut hv 0; simpa using this
theorem cut_all {s : ByteArray} (hv : dirsV s.data.toList = true) : ((chg s.data.toList : Nat) : Int) = chgZ (s.extract 0 s.size).data.toList + chgZ (s.extract s.size s.size).data.toList := by
  have := chg_cut hv s.size
  rw [show s.data.toList.drop s.size = [] from List.drop_of_length_le (by simp)] at this
  simpa using this
theorem cut_eq {s : ByteArray} (hv : dirsV s.data.toList = true) (k : Nat) (h : k + 1 < s.size) (he : s[k] = s[k + 1]) : ((chg s.data.toList : Nat) : Int) = chgZ (s.extract 0 (k + 1)).data.toList + chgZ (s.extract (k + 1) s.size).data.toList := by
  have := chg_cut hv (k + 1)
  rw [last_take s k (by omega), drop_at s (k + 1) h] at this
  simpa [he] using this
theorem cut_ne {s : ByteArray} (hv : dirsV s.data.toList = true) (k : Nat) (h : k + 1 < s.size) (he : ¬ s[k] = s[k + 1]) : ((chg s.data.toList : Nat) : Int) = chgZ (s.extract 0 (k + 1)).data.toList + chgZ (s.extract (k + 1) s.size).data.toList + 1 := by
  have := chg_cut hv (k + 1)
  rw [last_take s k (by omega), drop_at s (k + 1) h] at this
  simpa [he] using this
theorem chgZ_bd (l : List UInt8) : -1 ≤ chgZ l ∧ chgZ l ≤ l.length := by
  unfold chgZ
  have := chg_le l
  split <;> omega
/-- The count, told of a text. -/
def chgS (s : ByteArray) : Int := chgZ s.data.toList
theorem cut_facts {s : ByteArray} (hv : dirsV s.data.toList = true) (k : Nat) (hk : k ≤ s.size) : ∃ (c : Nat) (c1 c2 : Int), chgZ s.data.toList = c ∧ c ≤ 30 ∧ chgS (s.extract 0 k) = c1 ∧ chgS (s.extract k s.size) = c2 ∧ (-1 ≤ c1 ∧ c1 ≤ 30 ∧ -1 ≤ c2 ∧ c2 ≤ 30) ∧
    ((k = 0 ∧ c1 + c2 = c) ∨ (0 < k ∧ k = s.size ∧ c1 + c2 = c) ∨ (∃ j, k = j + 1 ∧ ∃ _ : j + 1 < s.size, s[j] = s[j + 1] ∧ c1 + c2 = c) ∨ (∃ j, k = j + 1 ∧ ∃ _ : j + 1 < s.size, ¬ s[j] = s[j + 1] ∧ c1 + c2 + 1 = c)) := by
  have hlen := dirs_len hv
  have hcle := chg_le s.data.toList
  have hl0 : s.data.toList.length = s.size := by simp
  have b1 := chgZ_bd (s.extract 0 k).data.toList
  have b2 := chgZ_bd (s.extract k s.size).data.toList
  have l1 : (s.extract 0 k).data.toList.length ≤ k := by rw [ext_take]; exact List.length_take_le _ _
  have l2 : (s.extract k s.size).data.toList.length ≤ s.size := by rw [ext_drop, List.length_drop]; omega
  refine ⟨chg s.data.toList, chgZ (s.extract 0 k).data.toList, chgZ (s.extract k s.size).data.toList, chgZ_yes hv, by omega, rfl, rfl, by omega, ?_⟩
  by_cases h0 : k = 0
  · subst h0; exact .inl ⟨rfl, (cut_zero hv).symm⟩
  by_cases h1 : k = s.size
  · subst h1; exact .inr (.inl ⟨by omega, rfl, (cut_all hv).symm⟩)
  obtain ⟨j, rfl⟩ : ∃ j, k = j + 1 := ⟨k - 1, by omega⟩
  have hj : j + 1 < s.size := by omega
  by_cases he : s[j] = s[j + 1]
  · exact .inr (.inr (.inl ⟨j, rfl, hj, he, (cut_eq hv j hj he).symm⟩))
  · exact .inr (.inr (.inr ⟨j, rfl, hj, he, (cut_ne hv j hj he).symm⟩))
theorem mod_at (n m : Nat) : ∃ k : Nat, (n : Int) % ((m : Int) + 1) = (k : Int) ∧ Int.tmod (n : Int) ((m : Int) + 1) = (k : Int) ∧ k ≤ m := by
  have := Nat.mod_lt n (show 0 < m + 1 by omega)
  have e : (n : Int) % ((m : Int) + 1) = ((n % (m + 1) : Nat) : Int) := by rw [Int.natCast_emod]; rfl
  exact ⟨n % (m + 1), e, by rw [Int.tmod_eq_emod_of_nonneg (by omega), e], by omega⟩
end Go.Proofs.Ytejggpejmooegaa
