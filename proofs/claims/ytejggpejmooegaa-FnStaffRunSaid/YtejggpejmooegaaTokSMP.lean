/-
  Plain: the kinds are counted one by one.
-/
import Derived.Test.YtejggpejmooegaaTokKP
import Derived.Test.YtejggpejmooegaaTokC
namespace Go.Proofs.Ytejggpejmooegaa
open Go.RowKit

def bitC (x : Nat) : UInt8 := if x % 2 = 0 then 83 else 84
/-- The first i kinds that the number x tells. -/
def bt (x i : Nat) : List UInt8 := (List.range i).map fun j => bitC (x / 2 ^ j)
theorem bt_zero (x : Nat) : bt x 0 = [] := rfl
theorem bt_snoc (x i : Nat) : bt x (i + 1) = bt x i ++ [bitC (x / 2 ^ i)] := by simp [bt, List.range_succ]
theorem bt_len (x i : Nat) : (bt x i).length = i := by simp [bt]
theorem bt_cons (x i : Nat) : bt x (i + 1) = bitC x :: bt (x / 2) i := by
  simp only [bt, List.range_succ_eq_map, List.map_cons, List.map_map, Nat.pow_zero, Nat.div_one]
  congr 1
  apply List.map_congr_left
  intro j _
  simp only [Function.comp]
  rw [Nat.div_div_eq_div_mul, Nat.pow_succ, Nat.mul_comm]
theorem half_pow (x i : Nat) : x / 2 ^ i / 2 = x / 2 ^ (i + 1) := by rw [Nat.div_div_eq_div_mul, Nat.pow_succ]
theorem bt_s (x i : Nat) (h : (x / 2 ^ i) % 2 = 0) : baOf (bt x i) ++ { data := #[83] } = baOf (bt x (i + 1)) := by
  rw [bt_snoc, ← baOf_append]; unfold bitC; rw [if_pos h]; rfl
theorem bt_t (x i : Nat) (h : ¬ (x / 2 ^ i) % 2 = 0) : baOf (bt x i) ++ { data := #[84] } = baOf (bt x (i + 1)) := by
  rw [bt_snoc, ← baOf_append]; unfold bitC; rw [if_neg h]; rfl
/-- How many numbers below N answer yes. -/
def cnt (f : Nat → Bool) : Nat → Nat
  | 0 => 0
  | n + 1 => cnt f n + if f n = true then 1 else 0
theorem cnt_le (f : Nat → Bool) : ∀ n, cnt f n ≤ n
  | 0 => Nat.le_refl _
  | n + 1 => by have := cnt_le f n; unfold cnt; split <;> omega
theorem cnt_two (f : Nat → Bool) : ∀ n, cnt f (2 * n) = cnt (fun y => f (2 * y)) n + cnt (fun y => f (2 * y + 1)) n
  | 0 => rfl
  | n + 1 => by
    rw [show 2 * (n + 1) = 2 * n + 1 + 1 by omega, cnt, cnt, cnt_two f n, cnt, cnt]
    omega
theorem cnt_congr {f g : Nat → Bool} (h : ∀ n, f n = g n) : ∀ n, cnt f n = cnt g n
  | 0 => rfl
  | n + 1 => by rw [cnt, cnt, cnt_congr h n, h n]
theorem cnt_no : ∀ n, cnt (fun _ => false) n = 0
  | 0 => rfl
  | n + 1 => by rw [cnt, cnt_no n]; rfl
def yes (a : Int) (D : List UInt8) (x : Nat) : Bool := (staffGo a D (bt x D.length)).isSome
theorem yes_cons (a : Int) (d : UInt8) (D : List UInt8) (x : Nat) : yes a (d :: D) x = (decide (endOf d = a) && yes (if x % 2 = 0 then 1 - a else a) D (x / 2)) := by
  unfold yes
  rw [List.length_cons, bt_cons, staffGo]
  by_cases h : endOf d = a
  · rw [if_neg (by simp [h]), decide_eq_true h, Bool.true_and]
    by_cases e : x % 2 = 0
    · have e2 : bitC x = 83 := by unfold bitC; rw [if_pos e]
      rw [e2, if_neg (by decide), if_pos rfl, if_pos e]
    · have e2 : bitC x = 84 := by unfold bitC; rw [if_neg e]
      rw [e2, if_neg (by decide), if_neg (by decide), if_neg e]
  · rw [if_pos h, decide_eq_false h]; rfl
theorem cnt_cons (a : Int) (d : UInt8) (D : List UInt8) (n : Nat) : cnt (yes a (d :: D)) (2 * n) = if endOf d = a then cnt (yes (1 - a) D) n + cnt (yes a D) n else 0 := by
  rw [cnt_two]
  by_cases h : endOf d = a
  · rw [if_pos h]
    rw [cnt_congr (f := fun y => yes a (d :: D) (2 * y)) (g := yes (1 - a) D) (fun y => by rw [yes_cons, decide_eq_true h, Bool.true_and, if_pos (by omega), show 2 * y / 2 = y by omega]),
      cnt_congr (f := fun y => yes a (d :: D) (2 * y + 1)) (g := yes a D) (fun y => by rw [yes_cons, decide_eq_true h, Bool.true_and, if_neg (by omega), show (2 * y + 1) / 2 = y by omega])]
  · rw [if_neg h]
    rw [cnt_congr (f := fun y => yes a (d :: D) (2 * y)) (g := fun _ => false) (fun y => by rw [yes_cons, decide_eq_false h]; rfl), cnt_congr (f := fun y => yes a (d :: D) (2 * y + 1)) (g := fun _ => false) (fun y => by rw [yes_cons, decide_eq_false h]; rfl), cnt_no]
theorem cnt_all : ∀ (D : List UInt8) (a : Int), (a = 0 ∨ a = 1) → cnt (yes a D) (2 ^ D.length) = match D with | [] => 1 | c :: _ => if endOf c = a then 2 else 0
  | [], a, _ => rfl
  | d :: D, a, ha => by
    rw [List.length_cons, Nat.pow_succ, Nat.mul_comm, cnt_cons]
    show _ = if endOf d = a then 2 else 0
    by_cases h : endOf d = a
    · rw [if_pos h, if_pos h, cnt_all D (1 - a) (by omega), cnt_all D a ha]
      cases D with
      | nil => rfl
      | cons e D =>
        have he : endOf e = 0 ∨ endOf e = 1 := by unfold endOf; split <;> simp
        show (if endOf e = 1 - a then 2 else 0) + (if endOf e = a then 2 else 0) = 2
        by_cases h2 : endOf e = a
        · rw [if_neg (by omega), if_pos h2]
        · rw [if_pos (by omega), if_neg h2]
    · rw [if_neg h, if_neg h]
/-- What FnStaffMany counts. -/
theorem cnt_staff {a : Int} {s : ByteArray} (ha : a = 0 ∨ a = 1) (hv : dirsV s.data.toList = true) : (cnt (yes a s.data.toList) (2 ^ s.size) : Int) = staffM a s.data.toList := by
  have hl : s.data.toList.length = s.size := by simp
  rw [← hl, cnt_all _ a ha]
  unfold staffM
  rw [if_pos ⟨ha, hv⟩]
  cases s.data.toList with
  | nil => rfl
  | cons c r => show ((if endOf c = a then 2 else 0 : Nat) : Int) = if endOf c = a then 2 else 0; split <;> rfl
theorem yes_run {a : Int} {s : ByteArray} (ha : a = 0 ∨ a = 1) (hv : dirsV s.data.toList = true) (x : Nat) : (staffR a s.data.toList (baOf (bt x s.size)).data.toList).isSome = yes a s.data.toList x := by
  have hl : s.data.toList.length = s.size := by simp
  rw [staffR_go ha hv (by rw [baOf_size, bt_len]), baOf_list]
  unfold yes
  rw [hl]
theorem staffM_in {a : Int} {l : List UInt8} (h : ¬ (staffM a l : Int) < 0) : (a = 0 ∨ a = 1) ∧ dirsV l = true := by
  refine Decidable.byContradiction fun hn => h ?_
  unfold staffM; rw [if_neg hn]; decide
theorem staffM_le (a : Int) (l : List UInt8) : -1 ≤ staffM a l ∧ staffM a l ≤ 2 := by
  unfold staffM
  split
  · cases l with
    | nil => simp
    | cons c r => show -1 ≤ (if endOf c = a then (2 : Int) else 0) ∧ (if endOf c = a then (2 : Int) else 0) ≤ 2; split <;> omega
  · omega
theorem pow_bd (i : Nat) (h : i ≤ 8) : 2 ^ i ≤ 256 := Nat.pow_le_pow_right (n := 2) (by omega) h
end Go.Proofs.Ytejggpejmooegaa
