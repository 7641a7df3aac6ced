/-
  Plain: the kinds with which the staff goes.
-/
import Derived.Test.YtejggpejmooegaaTok7
import Derived.Test.YtejggpejmooegaaTok4P
import Derived.Deep.Draws
namespace Go.Proofs.Ytejggpejmooegaa
open Go.RowKit

theorem below_drewN {B : Nat} {a w : World} (h : Below B a w) (n : Nat) : Below B a (w.drewN n) := ⟨h.os, h.tape, h.output, h.size, h.block⟩
def kindC (s : ByteArray) (k : Nat) : UInt8 := if s.data.toList[k + 1]? ≠ none ∧ s.data.toList[k + 1]? ≠ s.data.toList[k]? then 83 else 84
def kindsTo (s : ByteArray) (k : Nat) : List UInt8 := (List.range k).map (kindC s)
theorem at_some (s : ByteArray) (k : Nat) (h : k < s.size) : s.data.toList[k]? = some s[k] := by
  have h2 : k < s.data.toList.length := by simpa using h
  rw [List.getElem?_eq_getElem h2]; rfl
theorem at_none (s : ByteArray) (k : Nat) (h : ¬ k < s.size) : s.data.toList[k]? = none := by
  rw [List.getElem?_eq_none_iff]; simpa using h
theorem kindC_s {s : ByteArray} {k : Nat} (h : k + 1 < s.size) (hne : ¬ s[k + 1] = s[k]) : kindC s k = 83 := by
  unfold kindC; rw [at_some s (k + 1) h, at_some s k (by omega), if_pos ⟨by simp, by simpa using hne⟩]
theorem kindC_t {s : ByteArray} {k : Nat} (h : k + 1 < s.size) (he : s[k + 1] = s[k]) : kindC s k = 84 := by
  unfold kindC; rw [at_some s (k + 1) h, at_some s k (by omega), if_neg (by simp [he])]
theorem kindC_end {s : ByteArray} {k : Nat} (h : ¬ k + 1 < s.size) : kindC s k = 84 := by
  unfold kindC; rw [at_none s (k + 1) h, if_neg (by simp)]
theorem kindsTo_zero (s : ByteArray) : kindsTo s 0 = [] := rfl
theorem kindsTo_succ (s : ByteArray) (k : Nat) : kindsTo s (k + 1) = kindsTo s k ++ [kindC s k] := by simp [kindsTo, List.range_succ]
theorem kindsTo_len (s : ByteArray) (k : Nat) : (kindsTo s k).length = k := by simp [kindsTo]
theorem kindsTo_size (s : ByteArray) (k : Nat) : (baOf (kindsTo s k)).size = k := by rw [baOf_size, kindsTo_len]
theorem kindsTo_at (s : ByteArray) (n k : Nat) (h : k < n) : (kindsTo s n).getD k 0 = kindC s k := by
  simp [kindsTo, List.getD, h]
theorem kinds_s (s : ByteArray) (k : Nat) (h : k + 1 < s.size) (hne : ¬ s[k + 1] = s[k]) : baOf (kindsTo s k) ++ { data := #[83] } = baOf (kindsTo s (k + 1)) := by
  rw [kindsTo_succ, kindC_s h hne, ← baOf_append]; rfl
theorem kinds_t (s : ByteArray) (k : Nat) (h : k + 1 < s.size) (he : s[k + 1] = s[k]) : baOf (kindsTo s k) ++ { data := #[84] } = baOf (kindsTo s (k + 1)) := by
  rw [kindsTo_succ, kindC_t h he, ← baOf_append]; rfl
theorem kinds_end (s : ByteArray) (k : Nat) (h : ¬ k + 1 < s.size) : baOf (kindsTo s k) ++ { data := #[84] } = baOf (kindsTo s (k + 1)) := by
  rw [kindsTo_succ, kindC_end h, ← baOf_append]; rfl
/-- Does the first train go from this end? -/
def headOk (a : Int) (l : List UInt8) : Bool := match l with | [] => true | c :: _ => endOf c == a
theorem headOk_nil {a : Int} {s : ByteArray} (h : s.size = 0) : headOk a s.data.toList = true := by
  have hl : s.data.toList = [] := List.eq_nil_of_length_eq_zero (by simpa using h)
  rw [hl]; rfl
theorem headOk_cons {a : Int} {s : ByteArray} (h : 0 < s.size) : headOk a s.data.toList = (endOf s[0] == a) := by
  rw [cons_of s h]; rfl
/-- StaffKinds. -/
def kB (a : Int) (l : List UInt8) : Bool := (decide (a = 0 ∨ a = 1) && dirsV l) && headOk a l
def kS (a : Int) (s : ByteArray) : ByteArray := if kB a s.data.toList = true then baOf (kindsTo s s.size) else baOf []
theorem kB_at {a : Int} {l : List UInt8} (h : ¬ (a = 0 ∨ a = 1)) : kB a l = false := by simp [kB, h]
theorem kB_dir {a : Int} {l : List UInt8} (h : dirsV l = false) : kB a l = false := by simp [kB, h]
theorem kB_head {a : Int} {l : List UInt8} (h : headOk a l = false) : kB a l = false := by simp [kB, h]
theorem kB_yes {a : Int} {l : List UInt8} (h : a = 0 ∨ a = 1) (h2 : dirsV l = true) (h3 : headOk a l = true) : kB a l = true := by simp [kB, h, h2, h3]
theorem kS_no {a : Int} {s : ByteArray} (h : kB a s.data.toList = false) : kS a s = baOf [] := if_neg (by simp [h])
theorem kS_yes {a : Int} {s : ByteArray} (h : kB a s.data.toList = true) : kS a s = baOf (kindsTo s s.size) := if_pos h
theorem ba_at (s : ByteArray) (n k : Nat) (h : k < n) (h2 : k < (baOf (kindsTo s n)).size) : (baOf (kindsTo s n))[k] = kindC s k := by
  have e : (baOf (kindsTo s n))[k] = (kindsTo s n)[k]'(by rw [kindsTo_len]; exact h) := by simp [baOf, ByteArray.getElem_eq_getElem_data]
  rw [e]; simp [kindsTo]
theorem byte_inj {c d : UInt8} (h : (c.toNat : Int) = (d.toNat : Int)) : c = d := by
  rw [← UInt8.toNat_inj]; omega
theorem end_other {s : ByteArray} (hv : dirsV s.data.toList = true) {i j : Nat} (hi : i < s.size) (hj : j < s.size) (hne : ¬ s[i] = s[j]) : endOf s[i] = 1 - endOf s[j] := by
  have h1 := dirs_at hv hi
  have h2 := dirs_at hv hj
  have h3 : ¬ (s[i].toNat : Int) = (s[j].toNat : Int) := fun e => hne (byte_inj e)
  by_cases e1 : (s[i].toNat : Int) = 85
  · rw [endOf_u e1, endOf_d (by omega)]; omega
  · rw [endOf_d e1, endOf_u (by omega)]; omega
theorem go_kinds (s : ByteArray) (hv : dirsV s.data.toList = true) : ∀ (m k : Nat) (a : Int), s.size - k = m → k ≤ s.size → (∀ h : k < s.size, endOf s[k] = a) →
    (staffGo a (s.data.toList.drop k) ((baOf (kindsTo s s.size)).data.toList.drop k)).isSome = true := by
  intro m
  induction m with
  | zero =>
    intro k a hm hk _
    rw [go_end a s _ k (by omega)]; rfl
  | succ m ih =>
    intro k a hm hk hE
    have hlt : k < s.size := by omega
    have hlt2 : k < (baOf (kindsTo s s.size)).size := by rw [kindsTo_size]; exact hlt
    have hE := hE hlt
    by_cases h1 : k + 1 < s.size
    · by_cases he : s[k + 1] = s[k]
      · have hK : (baOf (kindsTo s s.size))[k] = 84 := by rw [ba_at s _ k hlt hlt2, kindC_t h1 he]
        rw [go_stay a s _ k hlt hlt2 hE (by rw [hK]; rfl)]
        exact ih (k + 1) a (by omega) (by omega) (fun _ => by rw [he]; exact hE)
      · have hK : (baOf (kindsTo s s.size))[k] = 83 := by rw [ba_at s _ k hlt hlt2, kindC_s h1 he]
        rw [go_turn a s _ k hlt hlt2 hE (by rw [hK]; rfl)]
        exact ih (k + 1) (1 - a) (by omega) (by omega) (fun _ => by rw [end_other hv h1 hlt he, hE])
    · have hK : (baOf (kindsTo s s.size))[k] = 84 := by rw [ba_at s _ k hlt hlt2, kindC_end h1]
      rw [go_stay a s _ k hlt hlt2 hE (by rw [hK]; rfl)]
      exact ih (k + 1) a (by omega) (by omega) (fun h => absurd h h1)
theorem kinds_run (a : Int) (s : ByteArray) (hv : dirsV s.data.toList = true) : (staffR a s.data.toList (baOf (kindsTo s s.size)).data.toList).isSome = kB a s.data.toList := by
  by_cases ha : a = 0 ∨ a = 1
  rotate_left
  · rw [staffR_at ha, kB_at ha]; rfl
  rw [staffR_go ha hv (kindsTo_size s s.size)]
  by_cases h0 : s.size = 0
  · rw [kB_yes ha hv (headOk_nil h0)]
    exact go_kinds s hv s.size 0 a rfl (by omega) (fun h => absurd h (by omega))
  have h1 : 0 < s.size := by omega
  by_cases he : endOf s[0] = a
  · rw [kB_yes ha hv (by rw [headOk_cons h1]; simpa using he)]
    exact go_kinds s hv s.size 0 a rfl (by omega) (fun _ => he)
  · rw [kB_head (by rw [headOk_cons h1]; simpa using he)]
    have := go_off a s (baOf (kindsTo s s.size)) 0 h1 (by rw [kindsTo_size]; exact h1) he
    simp only [List.drop_zero] at this
    rw [this]; rfl
end Go.Proofs.Ytejggpejmooegaa
