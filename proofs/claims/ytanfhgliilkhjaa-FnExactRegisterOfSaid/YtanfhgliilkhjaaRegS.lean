/-
  Contracts on letters: is a text the letter of an event? The reference's and the program's.
-/
import Derived.Test.YtanfhgliilkhjaaPathI
import Derived.Lib.Bytealg
import Derived.Lib.Walk
import Derived.Lib.Strings
import Derived.BigCall
namespace Go.Proofs.Ytanfhgliilkhjaa
open Go.RowKit
set_option linter.unusedVariables false

/-- The letters of events. -/
def lets : List UInt8 := [97, 99, 101, 102, 108, 111, 114]
def letB (c : UInt8) : Bool := c == 97 || c == 99 || c == 101 || c == 102 || c == 108 || c == 111 || c == 114
def letL (l : List UInt8) : Bool := match l with
  | [c] => letB c
  | _ => false
/-- The letter of an event. -/
def isLet (s : ByteArray) : Bool := letL s.data.toList
theorem toList_d (s : ByteArray) : s.toList = s.data.toList := Go.ByteArray.toList_eq s
theorem isLet_at {s : ByteArray} {c : UInt8} (h : s.toList = [c]) : isLet s = letB c := by unfold isLet; rw [← toList_d, h]; rfl
theorem letB_none {c : UInt8} (h : ∀ x ∈ lets, c ≠ x) : letB c = false := by
  unfold letB
  have h1 := h 97 (by decide); have h2 := h 99 (by decide); have h3 := h 101 (by decide); have h4 := h 102 (by decide); have h5 := h 108 (by decide); have h6 := h 111 (by decide); have h7 := h 114 (by decide)
  simp [h1, h2, h3, h4, h5, h6, h7]
theorem isLet_none {s : ByteArray} (h : ∀ x ∈ lets, s.toList ≠ [x]) : isLet s = false := by
  unfold isLet
  rw [← toList_d]
  generalize s.toList = l at *
  match l, h with
  | [], _ => rfl
  | [c], h => exact letB_none fun x hx e => h x hx (by rw [e])
  | _ :: _ :: _, _ => rfl
theorem letB_idx (c : UInt8) : decide (0 ≤ Lib.indexByte lets c) = letB c := by
  by_cases h1 : c = 97; · subst h1; decide
  by_cases h2 : c = 99; · subst h2; decide
  by_cases h3 : c = 101; · subst h3; decide
  by_cases h4 : c = 102; · subst h4; decide
  by_cases h5 : c = 108; · subst h5; decide
  by_cases h6 : c = 111; · subst h6; decide
  by_cases h7 : c = 114; · subst h7; decide
  have z1 : ((97 : UInt8) == c) = false := beq_eq_false_iff_ne.2 fun e => h1 e.symm
  have z2 : ((99 : UInt8) == c) = false := beq_eq_false_iff_ne.2 fun e => h2 e.symm
  have z3 : ((101 : UInt8) == c) = false := beq_eq_false_iff_ne.2 fun e => h3 e.symm
  have z4 : ((102 : UInt8) == c) = false := beq_eq_false_iff_ne.2 fun e => h4 e.symm
  have z5 : ((108 : UInt8) == c) = false := beq_eq_false_iff_ne.2 fun e => h5 e.symm
  have z6 : ((111 : UInt8) == c) = false := beq_eq_false_iff_ne.2 fun e => h6 e.symm
  have z7 : ((114 : UInt8) == c) = false := beq_eq_false_iff_ne.2 fun e => h7 e.symm
  have e1 : letB c = false := by simp [letB, h1, h2, h3, h4, h5, h6, h7]
  have e2 : Lib.indexByte lets c = -1 := by simp [lets, Lib.indexByte, z1, z2, z3, z4, z5, z6, z7]
  rw [e1, e2]; rfl
theorem cut_one (s : ByteArray) (k : Nat) (h : k < s.size) : (s.extract k (k + 1)).data.toList = [s[k]] := by
  have hl : k < s.data.toList.length := by simpa using h
  simp only [ByteArray.data_extract, Array.toList_extract, List.extract_eq_take_drop]
  rw [Nat.add_sub_cancel_left, List.drop_eq_getElem_cons hl]; rfl
set_option maxHeartbeats 1000000 in
theorem sLetter (s : ByteArray) (w : World) : Calls Try.prog 57 #[.string s] w fun e w' => e = .returned (.bool (isLet s)) ∧ w = w' := by
  go_enter Try.func57, Try.ntmps57
  go_wp2
  go_loop [4] (fun i => ∃ k : Nat, k ≤ 7 ∧ i = .int .i64 k ∧ Hid (∀ x ∈ lets.take k, s.toList ≠ [x])) (fun i => 7 - (intOf i).toNat)
  case atStart => exact ⟨0, by omega, rfl, fun x hx => by simp at hx⟩
  case round =>
    obtain ⟨k, hk, rfl, hI⟩ := hrel
    by_cases hlt : k < 7
    · rcases (show k = 0 ∨ k = 1 ∨ k = 2 ∨ k = 3 ∨ k = 4 ∨ k = 5 ∨ k = 6 by omega) with rfl | rfl | rfl | rfl | rfl | rfl | rfl
      -- LET0
      · have hx : (({ data := #[97, 99, 101, 102, 108, 111, 114] } : ByteArray).extract 0 1).toList = [97] := by rw [toList_d, cut_one _ 0 (by decide)]; rfl
        by_cases he : s.toList = [97]
        · have hd : ([(97 : UInt8)] == s.toList) = true := by rw [he]; rfl
          have hr := hide (show isLet s = true by rw [isLet_at he]; rfl)
          clear he hI
          go_wp2
          go_ret
          exact ⟨ret_bool hr.symm, rfl⟩
        · have hd : ([(97 : UInt8)] == s.toList) = false := beq_eq_false_iff_ne.2 fun e => he e.symm
          have hI2 : Hid (∀ x ∈ lets.take 1, s.toList ≠ [x]) := fun x hx e => by
            have : x ∈ lets.take 0 ∨ x = 97 := by simpa [lets, or_assoc] using hx
            rcases this with hx | hx
            · exact hI.out x hx e
            · subst hx; exact he e
          clear he
          go_wp2
          go_round
          case rel => exact ⟨1, by omega, by go_num, hI2⟩
          case measure => simp [intOf]
      · have hx : (({ data := #[97, 99, 101, 102, 108, 111, 114] } : ByteArray).extract 1 2).toList = [99] := by rw [toList_d, cut_one _ 1 (by decide)]; rfl
        by_cases he : s.toList = [99]
        · have hd : ([(99 : UInt8)] == s.toList) = true := by rw [he]; rfl
          have hr := hide (show isLet s = true by rw [isLet_at he]; rfl)
          clear he hI
          go_wp2
          go_ret
          exact ⟨ret_bool hr.symm, rfl⟩
        · have hd : ([(99 : UInt8)] == s.toList) = false := beq_eq_false_iff_ne.2 fun e => he e.symm
          have hI2 : Hid (∀ x ∈ lets.take 2, s.toList ≠ [x]) := fun x hx e => by
            have : x ∈ lets.take 1 ∨ x = 99 := by simpa [lets, or_assoc] using hx
            rcases this with hx | hx
            · exact hI.out x hx e
            · subst hx; exact he e
          clear he
          go_wp2
          go_round
          case rel => exact ⟨2, by omega, by go_num, hI2⟩
          case measure => simp [intOf]
      · have hx : (({ data := #[97, 99, 101, 102, 108, 111, 114] } : ByteArray).extract 2 3).toList = [101] := by rw [toList_d, cut_one _ 2 (by decide)]; rfl
        by_cases he : s.toList = [101]
        · have hd : ([(101 : UInt8)] == s.toList) = true := by rw [he]; rfl
          have hr := hide (show isLet s = true by rw [isLet_at he]; rfl)
          clear he hI
          go_wp2
          go_ret
          exact ⟨ret_bool hr.symm, rfl⟩
        · have hd : ([(101 : UInt8)] == s.toList) = false := beq_eq_false_iff_ne.2 fun e => he e.symm
          have hI2 : Hid (∀ x ∈ lets.take 3, s.toList ≠ [x]) := fun x hx e => by
            have : x ∈ lets.take 2 ∨ x = 101 := by simpa [lets, or_assoc] using hx
            rcases this with hx | hx
            · exact hI.out x hx e
            · subst hx; exact he e
          clear he
          go_wp2
          go_round
          case rel => exact ⟨3, by omega, by go_num, hI2⟩
          case measure => simp [intOf]
      · have hx : (({ data := #[97, 99, 101, 102, 108, 111, 114] } : ByteArray).extract 3 4).toList = [102] := by rw [toList_d, cut_one _ 3 (by decide)]; rfl
        by_cases he : s.toList = [102]
        · have hd : ([(102 : UInt8)] == s.toList) = true := by rw [he]; rfl
          have hr := hide (show isLet s = true by rw [isLet_at he]; rfl)
          clear he hI
          go_wp2
          go_ret
          exact ⟨ret_bool hr.symm, rfl⟩
        · have hd : ([(102 : UInt8)] == s.toList) = false := beq_eq_false_iff_ne.2 fun e => he e.symm
          have hI2 : Hid (∀ x ∈ lets.take 4, s.toList ≠ [x]) := fun x hx e => by
            have : x ∈ lets.take 3 ∨ x = 102 := by simpa [lets, or_assoc] using hx
            rcases this with hx | hx
            · exact hI.out x hx e
            · subst hx; exact he e
          clear he
          go_wp2
          go_round
          case rel => exact ⟨4, by omega, by go_num, hI2⟩
          case measure => simp [intOf]
      · have hx : (({ data := #[97, 99, 101, 102, 108, 111, 114] } : ByteArray).extract 4 5).toList = [108] := by rw [toList_d, cut_one _ 4 (by decide)]; rfl
        by_cases he : s.toList = [108]
        · have hd : ([(108 : UInt8)] == s.toList) = true := by rw [he]; rfl
          have hr := hide (show isLet s = true by rw [isLet_at he]; rfl)
          clear he hI
          go_wp2
          go_ret
          exact ⟨ret_bool hr.symm, rfl⟩
        · have hd : ([(108 : UInt8)] == s.toList) = false := beq_eq_false_iff_ne.2 fun e => he e.symm
          have hI2 : Hid (∀ x ∈ lets.take 5, s.toList ≠ [x]) := fun x hx e => by
            have : x ∈ lets.take 4 ∨ x = 108 := by simpa [lets, or_assoc] using hx
            rcases this with hx | hx
            · exact hI.out x hx e
            · subst hx; exact he e
          clear he
          go_wp2
          go_round
          case rel => exact ⟨5, by omega, by go_num, hI2⟩
          case measure => simp [intOf]
      · have hx : (({ data := #[97, 99, 101, 102, 108, 111, 114] } : ByteArray).extract 5 6).toList = [111] := by rw [toList_d, cut_one _ 5 (by decide)]; rfl
        by_cases he : s.toList = [111]
        · have hd : ([(111 : UInt8)] == s.toList) = true := by rw [he]; rfl
          have hr := hide (show isLet s = true by rw [isLet_at he]; rfl)
          clear he hI
          go_wp2
          go_ret
          exact ⟨ret_bool hr.symm, rfl⟩
        · have hd : ([(111 : UInt8)] == s.toList) = false := beq_eq_false_iff_ne.2 fun e => he e.symm
          have hI2 : Hid (∀ x ∈ lets.take 6, s.toList ≠ [x]) := fun x hx e => by
            have : x ∈ lets.take 5 ∨ x = 111 := by simpa [lets, or_assoc] using hx
            rcases this with hx | hx
            · exact hI.out x hx e
            · subst hx; exact he e
          clear he
          go_wp2
          go_round
          case rel => exact ⟨6, by omega, by go_num, hI2⟩
          case measure => simp [intOf]
      · have hx : (({ data := #[97, 99, 101, 102, 108, 111, 114] } : ByteArray).extract 6 7).toList = [114] := by rw [toList_d, cut_one _ 6 (by decide)]; rfl
        by_cases he : s.toList = [114]
        · have hd : ([(114 : UInt8)] == s.toList) = true := by rw [he]; rfl
          have hr := hide (show isLet s = true by rw [isLet_at he]; rfl)
          clear he hI
          go_wp2
          go_ret
          exact ⟨ret_bool hr.symm, rfl⟩
        · have hd : ([(114 : UInt8)] == s.toList) = false := beq_eq_false_iff_ne.2 fun e => he e.symm
          have hI2 : Hid (∀ x ∈ lets.take 7, s.toList ≠ [x]) := fun x hx e => by
            have : x ∈ lets.take 6 ∨ x = 114 := by simpa [lets, or_assoc] using hx
            rcases this with hx | hx
            · exact hI.out x hx e
            · subst hx; exact he e
          clear he
          go_wp2
          go_round
          case rel => exact ⟨7, by omega, by go_num, hI2⟩
          case measure => simp [intOf]
      -- LET1
    · obtain rfl : k = 7 := by omega
      have hr := hide (isLet_none (s := s) hI.out)
      go_wp2
      go_ret
      exact ⟨ret_bool hr.symm, rfl⟩
set_option maxRecDepth 100000 in
set_option maxHeartbeats 1000000 in
theorem cIndexByte (s : ByteArray) (c : Int) (w : World) : Calls Try.prog 95 #[.string s, .int .u8 c] w fun e w' => e = .returned (.int .i64 (Lib.indexByte s.data.toList c.toNat.toUInt8)) ∧ w' = w := by
  go_enter Try.func95, Try.ntmps95
  go_wp2
  rw [run_callFunc_extern Try.func99 (by kernel_rfl) (by kernel_rfl) (by kernel_rfl) (e := Extern.BytealgIndexByte.indexByte) (by kernel_rfl), Lib.run_indexByteString]
  simp only [Result.andThen]
  rw [Oper.upon_value]
  go_wp2
  go_ret
  exact ⟨rfl, rfl⟩
set_option maxRecDepth 100000 in
set_option maxHeartbeats 1000000 in
theorem cIndex1 (s t : ByteArray) (w : World) (h : t.size = 1) (h2 : s.size = 7) : Calls Try.prog 94 #[.string s, .string t] w fun e w' => e = .returned (.int .i64 (Lib.indexByte s.data.toList (t[0]'(by omega)))) ∧ w' = w := by
  have hs : (t.size : Int) = 1 := by omega
  have hne : (t.toList == s.toList) = false := beq_eq_false_iff_ne.2 fun e => by
    have := congrArg List.length e
    rw [toList_d, toList_d] at this
    simp at this; omega
  have hc : (((t[0]'(by omega)).toNat : Int)).toNat.toUInt8 = t[0]'(by omega) := by simp
  go_enter Try.func94, Try.ntmps94
  go_wp2_with fail
  refine (cIndexByte s _ _).mono ?_
  rintro e w' ⟨rfl, rfl⟩
  go_wp2
  go_ret
  exact ⟨by simp, rfl⟩
set_option maxHeartbeats 1000000 in
theorem cContains1 (v : Bool) (t : ByteArray) (w : World) (h : t.size = 1) (hv : isLet t = v) : Calls Try.prog 92 #[.string ⟨#[97, 99, 101, 102, 108, 111, 114]⟩, .string t] w fun e w' => e = .returned (.bool v) ∧ w' = w := by
  have ht : t.toList = [t[0]'(by omega)] := by
    rw [toList_d]
    have hl : t.data.toList.length = 1 := by simpa using h
    match hm : t.data.toList, hl with
    | [c], _ => 
      have : t[0]'(by omega) = t.data.toList[0]'(by omega) := rfl
      rw [this]; simp [hm]
  have hb := letB_idx (t[0]'(by omega))
  rw [← isLet_at ht, hv] at hb
  have H : Calls Try.prog 93 #[.string ⟨#[97, 99, 101, 102, 108, 111, 114]⟩, .string t] w fun e w' => e = .returned (.int .i64 (Lib.indexByte lets (t[0]'(by omega)))) ∧ w' = w := by
    clear hb ht hv
    go_enter Try.func93, Try.ntmps93
    go_wp2_with fail
    refine (cIndex1 _ t _ h rfl).mono ?_
    rintro e w' ⟨rfl, rfl⟩
    go_wp2
    go_ret
    exact ⟨rfl, rfl⟩
  generalize Lib.indexByte lets (t[0]'(by omega)) = z at *
  clear ht hv
  go_enter Try.func92, Try.ntmps92
  go_wp2_with fail
  refine H.mono ?_
  rintro e w' ⟨rfl, rfl⟩
  go_wp2
  go_ret
  exact ⟨rfl, rfl⟩
theorem isLet_size {s : ByteArray} (h : ¬ s.size = 1) : isLet s = false := by
  unfold isLet
  have hl : ¬ s.data.toList.length = 1 := by simpa using h
  generalize s.data.toList = l at *
  match l, hl with
  | [], _ => rfl
  | [c], hl => exact absurd rfl hl
  | _ :: _ :: _, _ => rfl
set_option maxHeartbeats 1000000 in
theorem iEvent (v : Bool) (s : ByteArray) (w : World) (hv : isLet s = v) : Calls Try.prog 89 #[.string s] w fun e w' => e = .returned (.bool v) ∧ w' = w := by
  by_cases h : s.size = 1
  · have hs : ((s.size : Int) == 1) = true := beq_iff_eq.2 (by omega)
    have V := Lib.hid hv
    have H := Lib.hid h
    clear hv h
    go_enter Try.func89, Try.ntmps89
    go_wp2_with fail
    refine (cContains1 v s _ H.out V.out).mono ?_
    rintro e w' ⟨rfl, rfl⟩
    go_wp2
    go_ret
    exact ⟨rfl, rfl⟩
  · have hs : ((s.size : Int) == 1) = false := beq_eq_false_iff_ne.2 (by omega)
    have hr := hide ((isLet_size h).symm.trans hv)
    clear hv h
    go_enter Try.func89, Try.ntmps89
    go_wp2
    go_ret
    exact ⟨ret_bool hr.out, rfl⟩
theorem sIn_v (v : Bool) (n lo hi : Int) (w : World) (hv : (decide (lo ≤ n) && decide (n ≤ hi)) = v) :
    Calls Try.prog 53 #[.int .i64 n, .int .i64 lo, .int .i64 hi] w fun e w' => e = .returned (.bool v) ∧ w = w' := by
  by_cases h1 : lo ≤ n
  · by_cases h2 : n ≤ hi
    · have hr := hide (show v = true by rw [← hv, decide_eq_true h1, decide_eq_true h2]; rfl)
      clear hv
      go_enter Try.func53, Try.ntmps53
      go_wp2
      go_ret
      exact ⟨ret_bool hr.symm, rfl⟩
    · have hr := hide (show v = false by rw [← hv, decide_eq_true h1, decide_eq_false h2]; rfl)
      clear hv
      go_enter Try.func53, Try.ntmps53
      go_wp2
      go_ret
      exact ⟨ret_bool hr.symm, rfl⟩
  · have hr := hide (show v = false by rw [← hv, decide_eq_false h1]; rfl)
    clear hv
    go_enter Try.func53, Try.ntmps53
    go_wp2
    go_ret
    exact ⟨ret_bool hr.symm, rfl⟩
end Go.Proofs.Ytanfhgliilkhjaa
