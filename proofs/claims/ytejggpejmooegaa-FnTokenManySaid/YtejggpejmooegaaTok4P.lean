/-
  Plain: directions turned.
-/
import Derived.Test.YtejggpejmooegaaTokPlain
import Derived.Laws.BytesArg
import Derived.Deep.OwnRows
namespace Go.Proofs.Ytejggpejmooegaa
open Go.RowKit

def turnC (c : UInt8) : UInt8 := if c = 85 then 68 else 85
def turnL (l : List UInt8) : List UInt8 := l.map turnC
def baOf (l : List UInt8) : ByteArray := ⟨l.toArray⟩
theorem baOf_list (l : List UInt8) : (baOf l).data.toList = l := by simp [baOf]
theorem baOf_self (s : ByteArray) : baOf s.data.toList = s := by cases s; simp [baOf]
theorem baOf_size (l : List UInt8) : (baOf l).size = l.length := by simp [baOf, ByteArray.size]
theorem baOf_append (l : List UInt8) (c : UInt8) : baOf l ++ baOf [c] = baOf (l ++ [c]) := by
  simp only [baOf, ← ByteArray.append_eq]
  apply ByteArray.ext; simp
/-- DirectionsTurn: the text. -/
def turnS (s : ByteArray) : ByteArray := if dirsV s.data.toList = true then baOf (turnL s.data.toList) else baOf []
theorem turnS_yes {s : ByteArray} (h : dirsV s.data.toList = true) : turnS s = baOf (turnL s.data.toList) := if_pos h
theorem turnS_no {s : ByteArray} (h : dirsV s.data.toList = false) : turnS s = baOf [] := if_neg (by simp [h])
theorem turn_take (s : ByteArray) (k : Nat) (h : k < s.size) : turnL (s.data.toList.take (k + 1)) = turnL (s.data.toList.take k) ++ [turnC s[k]] := by
  rw [take_snoc s k h]; simp [turnL]
theorem turnC_u {c : UInt8} (h : (c.toNat : Int) = 85) : turnC c = 68 := by
  unfold turnC; rw [if_pos]; simp only [← UInt8.toNat_inj, UInt8.reduceToNat]; omega
theorem turnC_d {c : UInt8} (h : ¬ (c.toNat : Int) = 85) : turnC c = 85 := by
  unfold turnC; rw [if_neg]; simp only [← UInt8.toNat_inj, UInt8.reduceToNat]; omega
theorem turn_len (s : ByteArray) (k : Nat) : (baOf (turnL (s.data.toList.take k))).size ≤ k := by
  rw [baOf_size]; unfold turnL; rw [List.length_map]; exact List.length_take_le _ _
theorem turn_u (s : ByteArray) (k : Nat) (h : k < s.size) (hc : (s[k].toNat : Int) = 85) : baOf (turnL (s.data.toList.take k)) ++ { data := #[68] } = baOf (turnL (s.data.toList.take (k + 1))) := by
  rw [turn_take s k h, turnC_u hc, ← baOf_append]; rfl
theorem turn_d (s : ByteArray) (k : Nat) (h : k < s.size) (hc : ¬ (s[k].toNat : Int) = 85) : baOf (turnL (s.data.toList.take k)) ++ { data := #[85] } = baOf (turnL (s.data.toList.take (k + 1))) := by
  rw [turn_take s k h, turnC_d hc, ← baOf_append]; rfl
theorem turn_all (s : ByteArray) : baOf (turnL (s.data.toList.take s.size)) = baOf (turnL s.data.toList) := by rw [take_all]
theorem ret_string_bool {a b : ByteArray} {x y : Bool} (h : a = b) (h2 : x = y) : Ending.returned (.tuple #[.string a, .bool x]) = .returned (.tuple #[.string b, .bool y]) := by rw [h, h2]
/-! A row of bytes that is filled from the left. -/
def bf (T : List UInt8) (k : Nat) : Nat → Value := fun j => .int .u8 (if j < k then ((T.getD j 0).toNat : Int) else 0)
theorem bf_zero (T : List UInt8) : bf T 0 = fun _ => .int .u8 0 := by funext j; simp [bf]
theorem bf_step {w : World} {b t n k : Nat} {T : List UInt8} {v : Value} (h : w.rowIs b t n (bf T k)) (hv : v = .int .u8 ((T.getD k 0).toNat : Int)) : (w.setCell ⟨b, k, none⟩ v).rowIs b t n (bf T (k + 1)) :=
  (h.set k v).congr fun j _ => by
    simp only [bf]
    by_cases e : j = k
    · subst e; rw [if_pos rfl, if_pos (by omega), hv]
    · rw [if_neg e]
      by_cases h2 : j < k
      · rw [if_pos h2, if_pos (by omega)]
      · rw [if_neg h2, if_neg (by omega)]
theorem conv_row {P : Program} {w : World} {src e b n : Nat} (T : List UInt8) (hs : P.underlying src = some (.slice e)) (he : P.underlying e = some (.int .u8)) (h : w.rowIs b e n (bf T n)) (hT : T.length = n) (dst : Nat) (hd : P.underlying dst = some .string) :
    (convert src dst (.slice (some ⟨b, 0, none⟩) n n)).run P w = .ok (.string (baOf T)) w := by
  have := run_convert_bytes_arg (P := P) w src e hs he b 0 n n (T.map fun c => (c.toNat : Int)) (by simpa using hT) (fun i hi => by
    rw [Nat.zero_add, h.cell hi]
    have hTi : i < T.length := by omega
    simp [bf, hi, List.getD, List.getElem?_eq_getElem hTi]) dst hd
  rw [this]
  simp [strOfNums, baOf, Function.comp_def]
theorem turn_at (s : ByteArray) (k : Nat) (h : k < s.size) : (turnL s.data.toList).getD k 0 = turnC s[k] := by
  have hk : k < s.data.toList.length := by simpa using h
  unfold turnL
  simp only [List.getD, List.getElem?_map, List.getElem?_eq_getElem hk, Option.map_some, Option.getD_some]
  rfl
theorem turn_length (s : ByteArray) : (turnL s.data.toList).length = s.size := by simp [turnL]
end Go.Proofs.Ytejggpejmooegaa
