/-
  Plain: how many tokens directions need.
-/
import Derived.Test.YtejggpejmooegaaTokPlain
namespace Go.Proofs.Ytejggpejmooegaa
open Go.RowKit

def stepN (s : Int × Int × Int) (c : UInt8) : Int × Int × Int :=
  let t := if c = 85 then s.1 + 1 else s.1 - 1
  (t, max s.2.1 t, max s.2.2 (-t))
def needSt (l : List UInt8) : Int × Int × Int := l.foldl stepN (0, 0, 0)
/-- The balance, and the two needs. -/
def bal (l : List UInt8) : Int := (needSt l).1
def needA (l : List UInt8) : Int := (needSt l).2.1
def needB (l : List UInt8) : Int := (needSt l).2.2
theorem needSt_snoc (l : List UInt8) (c : UInt8) : needSt (l ++ [c]) = stepN (needSt l) c := by simp [needSt]
theorem need_bounds (l : List UInt8) : -(l.length : Int) ≤ bal l ∧ bal l ≤ l.length ∧ 0 ≤ needA l ∧ needA l ≤ l.length ∧ 0 ≤ needB l ∧ needB l ≤ l.length ∧ bal l ≤ needA l ∧ -bal l ≤ needB l := by
  suffices h : ∀ r : List UInt8, ∀ l, l = r.reverse → -(l.length : Int) ≤ bal l ∧ bal l ≤ l.length ∧ 0 ≤ needA l ∧ needA l ≤ l.length ∧ 0 ≤ needB l ∧ needB l ≤ l.length ∧ bal l ≤ needA l ∧ -bal l ≤ needB l from h l.reverse l (by simp)
  intro r
  induction r with
  | nil => intro l h; subst h; simp [bal, needA, needB, needSt]
  | cons c t ih =>
    intro l h
    subst h
    have := ih _ rfl
    rw [List.reverse_cons]
    simp only [bal, needA, needB, needSt_snoc, stepN, List.length_append, List.length_cons, List.length_nil] at this ⊢
    split <;> omega
theorem need_step (s : ByteArray) (k : Nat) (h : k < s.size) : needSt (s.data.toList.take (k + 1)) = stepN (needSt (s.data.toList.take k)) s[k] := by
  rw [take_snoc s k h, needSt_snoc]
theorem is85 {c : UInt8} (h : (c.toNat : Int) = 85) : c = 85 := by
  simp only [← UInt8.toNat_inj, UInt8.reduceToNat]; omega
theorem not85 {c : UInt8} (h : ¬ (c.toNat : Int) = 85) : ¬ c = 85 := by
  simp only [← UInt8.toNat_inj, UInt8.reduceToNat]; omega
theorem need_u (s : ByteArray) (k : Nat) (h : k < s.size) (hc : (s[k].toNat : Int) = 85) :
    bal (s.data.toList.take (k + 1)) = bal (s.data.toList.take k) + 1 ∧ needA (s.data.toList.take (k + 1)) = max (needA (s.data.toList.take k)) (bal (s.data.toList.take k) + 1) ∧
    needB (s.data.toList.take (k + 1)) = needB (s.data.toList.take k) := by
  have hb := need_bounds (s.data.toList.take k)
  simp only [bal, needA, needB, need_step s k h, stepN, if_pos (is85 hc)] at hb ⊢
  refine ⟨trivial, trivial, ?_⟩
  omega
theorem need_d (s : ByteArray) (k : Nat) (h : k < s.size) (hc : ¬ (s[k].toNat : Int) = 85) :
    bal (s.data.toList.take (k + 1)) = bal (s.data.toList.take k) - 1 ∧ needA (s.data.toList.take (k + 1)) = needA (s.data.toList.take k) ∧
    needB (s.data.toList.take (k + 1)) = max (needB (s.data.toList.take k)) (-(bal (s.data.toList.take k) - 1)) := by
  have hb := need_bounds (s.data.toList.take k)
  simp only [bal, needA, needB, need_step s k h, stepN, if_neg (not85 hc)] at hb ⊢
  refine ⟨trivial, ?_, trivial⟩
  omega
theorem need_all (s : ByteArray) : needA (s.data.toList.take s.size) = needA s.data.toList ∧ needB (s.data.toList.take s.size) = needB s.data.toList := by
  rw [take_all]; exact ⟨rfl, rfl⟩
theorem need_nil (s : ByteArray) : bal (s.data.toList.take 0) = 0 ∧ needA (s.data.toList.take 0) = 0 ∧ needB (s.data.toList.take 0) = 0 := by
  simp [bal, needA, needB, needSt]
theorem need_len (s : ByteArray) (k : Nat) : -(k : Int) ≤ bal (s.data.toList.take k) ∧ bal (s.data.toList.take k) ≤ k ∧ 0 ≤ needA (s.data.toList.take k) ∧ needA (s.data.toList.take k) ≤ k ∧ 0 ≤ needB (s.data.toList.take k) ∧ needB (s.data.toList.take k) ≤ k ∧
    bal (s.data.toList.take k) ≤ needA (s.data.toList.take k) ∧ -bal (s.data.toList.take k) ≤ needB (s.data.toList.take k) := by
  have h := need_bounds (s.data.toList.take k)
  have hl : (s.data.toList.take k).length ≤ k := List.length_take_le _ _
  omega
theorem ret_int2 {a b c d : Int} (h : a = c) (h2 : b = d) : Ending.returned (.tuple #[.int .i64 a, .int .i64 b]) = .returned (.tuple #[.int .i64 c, .int .i64 d]) := by rw [h, h2]
theorem ret_int2b {a b c d : Int} {x y : Bool} (h : a = c) (h2 : b = d) (h3 : x = y) : Ending.returned (.tuple #[.int .i64 a, .int .i64 b, .bool x]) = .returned (.tuple #[.int .i64 c, .int .i64 d, .bool y]) := by rw [h, h2, h3]
theorem ret_intb {a c : Int} {x y : Bool} (h : a = c) (h3 : x = y) : Ending.returned (.tuple #[.int .i64 a, .bool x]) = .returned (.tuple #[.int .i64 c, .bool y]) := by rw [h, h3]
theorem int_eq {a b : Int} (h : a = b) : Value.int .i64 a = .int .i64 b := by rw [h]
/-- TokenNeeds. -/
def needsA (l : List UInt8) : Int := if dirsV l = true then needA l else 0
def needsB (l : List UInt8) : Int := if dirsV l = true then needB l else 0
theorem needs_yes {l : List UInt8} (h : dirsV l = true) : needsA l = needA l ∧ needsB l = needB l := ⟨if_pos h, if_pos h⟩
theorem needs_no {l : List UInt8} (h : dirsV l = false) : needsA l = 0 ∧ needsB l = 0 := ⟨if_neg (by simp [h]), if_neg (by simp [h])⟩
theorem needs_bounds {l : List UInt8} : 0 ≤ needsA l ∧ needsA l ≤ 30 ∧ 0 ≤ needsB l ∧ needsB l ≤ 30 := by
  have hb := need_bounds l
  unfold needsA needsB
  split
  · rename_i h
    have : l.length ≤ 30 := by unfold dirsV at h; simp at h; exact h.1
    omega
  · omega
end Go.Proofs.Ytejggpejmooegaa
