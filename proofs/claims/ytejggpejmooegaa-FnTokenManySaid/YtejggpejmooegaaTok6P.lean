/-
  Plain: the staff.
-/
import Derived.Test.YtejggpejmooegaaTok5P
namespace Go.Proofs.Ytejggpejmooegaa
open Go.RowKit

def endOf (c : UInt8) : Int := if c = 85 then 0 else 1
theorem endOf_u {c : UInt8} (h : (c.toNat : Int) = 85) : endOf c = 0 := if_pos (is85 h)
theorem endOf_d {c : UInt8} (h : ¬ (c.toNat : Int) = 85) : endOf c = 1 := if_neg (not85 h)
theorem endOf_bd (c : UInt8) : 0 ≤ endOf c ∧ endOf c ≤ 1 := by unfold endOf; split <;> omega
/-- StaffMany. -/
def staffM (a : Int) (l : List UInt8) : Int := if (a = 0 ∨ a = 1) ∧ dirsV l = true then (match l with | [] => 1 | c :: _ => if endOf c = a then 2 else 0) else -1
theorem staffM_at {a : Int} {l : List UInt8} (h : ¬ (a = 0 ∨ a = 1)) : staffM a l = -1 := if_neg (fun x => h x.1)
theorem staffM_dir {a : Int} {l : List UInt8} (h : dirsV l = false) : staffM a l = -1 := if_neg (fun x => by rw [h] at x; exact absurd x.2 (by simp))
theorem staffM_nil {a : Int} {s : ByteArray} (h : a = 0 ∨ a = 1) (h2 : dirsV s.data.toList = true) (h3 : s.size = 0) : staffM a s.data.toList = 1 := by
  have hl : s.data.toList = [] := List.eq_nil_of_length_eq_zero (by simpa using h3)
  unfold staffM; rw [if_pos ⟨h, h2⟩, hl]
theorem cons_of (s : ByteArray) (h : 0 < s.size) : s.data.toList = s[0] :: s.data.toList.drop 1 := by
  have h2 : 0 < s.data.toList.length := by simpa using h
  have := List.drop_eq_getElem_cons h2
  simp only [List.drop_zero] at this
  exact this
theorem staffM_cons {a : Int} {s : ByteArray} (h : a = 0 ∨ a = 1) (h2 : dirsV s.data.toList = true) (h3 : 0 < s.size) : staffM a s.data.toList = if endOf s[0] = a then 2 else 0 := by
  unfold staffM; rw [if_pos ⟨h, h2⟩, cons_of s h3]
/-- The staff goes from train to train. -/
def staffGo : Int → List UInt8 → List UInt8 → Option Int
  | a, d :: ds, k :: ks => if endOf d ≠ a then none else if k ≠ 83 ∧ k ≠ 84 then none else staffGo (if k = 83 then 1 - a else a) ds ks
  | a, _, _ => some a
def staffR (a : Int) (D K : List UInt8) : Option Int := if ((a = 0 ∨ a = 1) ∧ dirsV D = true) ∧ K.length = D.length then staffGo a D K else none
theorem staffR_at {a : Int} {D K : List UInt8} (h : ¬ (a = 0 ∨ a = 1)) : staffR a D K = none := if_neg (fun x => h x.1.1)
theorem staffR_dir {a : Int} {D K : List UInt8} (h : dirsV D = false) : staffR a D K = none := if_neg (fun x => by rw [h] at x; exact absurd x.1.2 (by simp))
theorem staffR_len {a : Int} {D K : ByteArray} (h : ¬ K.size = D.size) : staffR a D.data.toList K.data.toList = none := if_neg (fun x => h (by simpa using x.2))
theorem staffR_go {a : Int} {D K : ByteArray} (h : a = 0 ∨ a = 1) (h2 : dirsV D.data.toList = true) (h3 : K.size = D.size) : staffR a D.data.toList K.data.toList = staffGo a D.data.toList K.data.toList :=
  if_pos ⟨⟨h, h2⟩, by simpa using h3⟩
theorem drop_at (s : ByteArray) (k : Nat) (h : k < s.size) : s.data.toList.drop k = s[k] :: s.data.toList.drop (k + 1) := by
  have h2 : k < s.data.toList.length := by simpa using h
  exact List.drop_eq_getElem_cons h2
theorem go_end (a : Int) (D K : ByteArray) (k : Nat) (h : D.size ≤ k) : staffGo a (D.data.toList.drop k) (K.data.toList.drop k) = some a := by
  rw [List.drop_of_length_le (by simpa using h)]; rfl
theorem go_turn (a : Int) (D K : ByteArray) (k : Nat) (h : k < D.size) (h2 : k < K.size) (he : endOf D[k] = a) (hs : (K[k].toNat : Int) = 83) :
    staffGo a (D.data.toList.drop k) (K.data.toList.drop k) = staffGo (1 - a) (D.data.toList.drop (k + 1)) (K.data.toList.drop (k + 1)) := by
  have e : K[k] = 83 := by simp only [← UInt8.toNat_inj, UInt8.reduceToNat]; omega
  rw [drop_at D k h, drop_at K k h2, staffGo, if_neg (by simp [he]), e]; rfl
theorem go_stay (a : Int) (D K : ByteArray) (k : Nat) (h : k < D.size) (h2 : k < K.size) (he : endOf D[k] = a) (hs : (K[k].toNat : Int) = 84) :
    staffGo a (D.data.toList.drop k) (K.data.toList.drop k) = staffGo a (D.data.toList.drop (k + 1)) (K.data.toList.drop (k + 1)) := by
  have e : K[k] = 84 := by simp only [← UInt8.toNat_inj, UInt8.reduceToNat]; omega
  rw [drop_at D k h, drop_at K k h2, staffGo, if_neg (by simp [he]), e]; rfl
theorem go_off (a : Int) (D K : ByteArray) (k : Nat) (h : k < D.size) (h2 : k < K.size) (he : ¬ endOf D[k] = a) :
    staffGo a (D.data.toList.drop k) (K.data.toList.drop k) = none := by
  rw [drop_at D k h, drop_at K k h2, staffGo, if_pos he]
theorem not_st {c : UInt8} (hs : ¬ ((c.toNat : Int) = 83 ∨ (c.toNat : Int) = 84)) : c ≠ 83 ∧ c ≠ 84 := by
  simp only [ne_eq, ← UInt8.toNat_inj, UInt8.reduceToNat]; omega
theorem go_bad (a : Int) (D K : ByteArray) (k : Nat) (h : k < D.size) (h2 : k < K.size) (he : endOf D[k] = a) (hs : ¬ ((K[k].toNat : Int) = 83 ∨ (K[k].toNat : Int) = 84)) :
    staffGo a (D.data.toList.drop k) (K.data.toList.drop k) = none := by
  rw [drop_at D k h, drop_at K k h2, staffGo, if_neg (by simp [he]), if_pos (not_st hs)]
theorem go_none : ∀ (D K : List UInt8) (a : Int) (c : UInt8), K.length = D.length → c ∈ K → c ≠ 83 ∧ c ≠ 84 → staffGo a D K = none
  | [], [], _, _, _, h, _ => by simp at h
  | [], _ :: _, _, _, h, _, _ => by simp at h
  | _ :: _, [], _, _, h, _, _ => by simp at h
  | d :: D, k :: K, a, c, hl, hm, hc => by
    rw [staffGo]
    split
    · rfl
    split
    · rfl
    · rename_i h
      rcases List.mem_cons.1 hm with e | e
      · subst e; exact absurd hc h
      · exact go_none D K _ c (by simpa using hl) e hc
theorem go_none_at (a : Int) (D K : ByteArray) (k : Nat) (hl : K.size = D.size) (h2 : k < K.size) (hs : ¬ ((K[k].toNat : Int) = 83 ∨ (K[k].toNat : Int) = 84)) :
    staffGo a D.data.toList K.data.toList = none :=
  go_none _ _ _ K[k] (by simpa using hl) (mem_at h2) (not_st hs)
/-- Every kind is S or T as far as k. -/
def stAll (K : ByteArray) (k : Nat) : Prop := ∀ j (h : j < K.size), j < k → (K[j].toNat : Int) = 83 ∨ (K[j].toNat : Int) = 84
theorem stAll_zero (K : ByteArray) : stAll K 0 := fun _ _ h => absurd h (by omega)
theorem stAll_step {K : ByteArray} {k : Nat} (h : stAll K k) (hk : k < K.size) (hc : (K[k].toNat : Int) = 83 ∨ (K[k].toNat : Int) = 84) : stAll K (k + 1) := by
  intro j hj hlt
  by_cases e : j = k
  · subst e; exact hc
  · exact h j hj (by omega)
theorem staffGo_bd : ∀ (D K : List UInt8) (a n : Int), a = 0 ∨ a = 1 → staffGo a D K = some n → n = 0 ∨ n = 1
  | [], _, a, n, h, e => by simp [staffGo] at e; omega
  | _ :: _, [], a, n, h, e => by simp [staffGo] at e; omega
  | d :: D, k :: K, a, n, h, e => by
    rw [staffGo] at e
    split at e
    · cases e
    split at e
    · cases e
    · exact staffGo_bd D K _ n (by split <;> omega) e
end Go.Proofs.Ytejggpejmooegaa
