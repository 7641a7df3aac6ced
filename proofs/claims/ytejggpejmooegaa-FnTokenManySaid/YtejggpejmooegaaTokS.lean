/-
  Contracts of l6tStep and TokenStep.
-/
import Derived.Test.YtejggpejmooegaaTokSP
import Derived.Test.YtejggpejmooegaaTok8
namespace Go.Proofs.Ytejggpejmooegaa
open Go.RowKit

theorem s_a_o0_apos (a b o : Int) (w : World) (hab : 0 ≤ a ∧ a ≤ 12 ∧ 0 ≤ b ∧ b ≤ 12) (ho : o = 0) (ha : 0 < a) :
    Calls Try.prog 59 #[.agg #[.int .i64 a, .int .i64 b, .int .i64 o], .int .u8 97] w fun e w' => e = .returned (.tuple #[.agg #[.int .i64 (tkA (stepO a b o 97)), .int .i64 (tkB (stepO a b o 97)), .int .i64 (tkO (stepO a b o 97))], .bool (stepO a b o 97).isSome]) ∧ Below w.heap.size w w' := by
  have hn := hide (step_a ho ha : stepO a b o 97 = _)
  obtain ⟨b1, b2, b3, b4⟩ := hab
  have q1 : (o == 0) = true := beq_iff_eq.2 ho
  clear ho
  go_enter Try.func59, Try.ntmps59
  go_wp2
  go_returns
  exact ⟨ret_tk (by rw [hn.out]; rfl) (by rw [hn.out]; rfl), by go_grown⟩
theorem s_a_o0_aneg (a b o : Int) (w : World) (hab : 0 ≤ a ∧ a ≤ 12 ∧ 0 ≤ b ∧ b ≤ 12) (ho : o = 0) (ha : a ≤ 0) :
    Calls Try.prog 59 #[.agg #[.int .i64 a, .int .i64 b, .int .i64 o], .int .u8 97] w fun e w' => e = .returned (.tuple #[.agg #[.int .i64 (tkA (stepO a b o 97)), .int .i64 (tkB (stepO a b o 97)), .int .i64 (tkO (stepO a b o 97))], .bool (stepO a b o 97).isSome]) ∧ Below w.heap.size w w' := by
  have hn := hide (step_a_no (by omega) : stepO a b o 97 = _)
  obtain ⟨b1, b2, b3, b4⟩ := hab
  have q1 : (o == 0) = true := beq_iff_eq.2 ho
  clear ho
  go_enter Try.func59, Try.ntmps59
  go_wp2
  go_returns
  exact ⟨ret_tk (by rw [hn.out]; rfl) (by rw [hn.out]; rfl), by go_grown⟩
theorem s_a_o1 (a b o : Int) (w : World) (hab : 0 ≤ a ∧ a ≤ 12 ∧ 0 ≤ b ∧ b ≤ 12) (ho : ¬ o = 0) :
    Calls Try.prog 59 #[.agg #[.int .i64 a, .int .i64 b, .int .i64 o], .int .u8 97] w fun e w' => e = .returned (.tuple #[.agg #[.int .i64 (tkA (stepO a b o 97)), .int .i64 (tkB (stepO a b o 97)), .int .i64 (tkO (stepO a b o 97))], .bool (stepO a b o 97).isSome]) ∧ Below w.heap.size w w' := by
  have hn := hide (step_a_no (by omega) : stepO a b o 97 = _)
  obtain ⟨b1, b2, b3, b4⟩ := hab
  have q1 : (o == 0) = false := beq_eq_false_iff_ne.2 ho
  clear ho
  go_enter Try.func59, Try.ntmps59
  go_wp2
  go_returns
  exact ⟨ret_tk (by rw [hn.out]; rfl) (by rw [hn.out]; rfl), by go_grown⟩
theorem s_b_o0_bpos (a b o : Int) (w : World) (hab : 0 ≤ a ∧ a ≤ 12 ∧ 0 ≤ b ∧ b ≤ 12) (ho : o = 0) (hb : 0 < b) :
    Calls Try.prog 59 #[.agg #[.int .i64 a, .int .i64 b, .int .i64 o], .int .u8 98] w fun e w' => e = .returned (.tuple #[.agg #[.int .i64 (tkA (stepO a b o 98)), .int .i64 (tkB (stepO a b o 98)), .int .i64 (tkO (stepO a b o 98))], .bool (stepO a b o 98).isSome]) ∧ Below w.heap.size w w' := by
  have hn := hide (step_b ho hb : stepO a b o 98 = _)
  obtain ⟨b1, b2, b3, b4⟩ := hab
  have q1 : (o == 0) = true := beq_iff_eq.2 ho
  clear ho
  go_enter Try.func59, Try.ntmps59
  go_wp2
  go_returns
  exact ⟨ret_tk (by rw [hn.out]; rfl) (by rw [hn.out]; rfl), by go_grown⟩
theorem s_b_o0_bneg (a b o : Int) (w : World) (hab : 0 ≤ a ∧ a ≤ 12 ∧ 0 ≤ b ∧ b ≤ 12) (ho : o = 0) (hb : b ≤ 0) :
    Calls Try.prog 59 #[.agg #[.int .i64 a, .int .i64 b, .int .i64 o], .int .u8 98] w fun e w' => e = .returned (.tuple #[.agg #[.int .i64 (tkA (stepO a b o 98)), .int .i64 (tkB (stepO a b o 98)), .int .i64 (tkO (stepO a b o 98))], .bool (stepO a b o 98).isSome]) ∧ Below w.heap.size w w' := by
  have hn := hide (step_b_no (by omega) : stepO a b o 98 = _)
  obtain ⟨b1, b2, b3, b4⟩ := hab
  have q1 : (o == 0) = true := beq_iff_eq.2 ho
  clear ho
  go_enter Try.func59, Try.ntmps59
  go_wp2
  go_returns
  exact ⟨ret_tk (by rw [hn.out]; rfl) (by rw [hn.out]; rfl), by go_grown⟩
theorem s_b_o1 (a b o : Int) (w : World) (hab : 0 ≤ a ∧ a ≤ 12 ∧ 0 ≤ b ∧ b ≤ 12) (ho : ¬ o = 0) :
    Calls Try.prog 59 #[.agg #[.int .i64 a, .int .i64 b, .int .i64 o], .int .u8 98] w fun e w' => e = .returned (.tuple #[.agg #[.int .i64 (tkA (stepO a b o 98)), .int .i64 (tkB (stepO a b o 98)), .int .i64 (tkO (stepO a b o 98))], .bool (stepO a b o 98).isSome]) ∧ Below w.heap.size w w' := by
  have hn := hide (step_b_no (by omega) : stepO a b o 98 = _)
  obtain ⟨b1, b2, b3, b4⟩ := hab
  have q1 : (o == 0) = false := beq_eq_false_iff_ne.2 ho
  clear ho
  go_enter Try.func59, Try.ntmps59
  go_wp2
  go_returns
  exact ⟨ret_tk (by rw [hn.out]; rfl) (by rw [hn.out]; rfl), by go_grown⟩
theorem s_p_o1 (a b o : Int) (w : World) (hab : 0 ≤ a ∧ a ≤ 12 ∧ 0 ≤ b ∧ b ≤ 12) (ho : o = 1) :
    Calls Try.prog 59 #[.agg #[.int .i64 a, .int .i64 b, .int .i64 o], .int .u8 112] w fun e w' => e = .returned (.tuple #[.agg #[.int .i64 (tkA (stepO a b o 112)), .int .i64 (tkB (stepO a b o 112)), .int .i64 (tkO (stepO a b o 112))], .bool (stepO a b o 112).isSome]) ∧ Below w.heap.size w w' := by
  have hn := hide (step_p1 ho : stepO a b o 112 = _)
  obtain ⟨b1, b2, b3, b4⟩ := hab
  have q1 : (o == 1) = true := beq_iff_eq.2 ho
  clear ho
  go_enter Try.func59, Try.ntmps59
  go_wp2
  go_returns
  exact ⟨ret_tk (by rw [hn.out]; rfl) (by rw [hn.out]; rfl), by go_grown⟩
theorem s_p_o2 (a b o : Int) (w : World) (hab : 0 ≤ a ∧ a ≤ 12 ∧ 0 ≤ b ∧ b ≤ 12) (ho : o = 2) :
    Calls Try.prog 59 #[.agg #[.int .i64 a, .int .i64 b, .int .i64 o], .int .u8 112] w fun e w' => e = .returned (.tuple #[.agg #[.int .i64 (tkA (stepO a b o 112)), .int .i64 (tkB (stepO a b o 112)), .int .i64 (tkO (stepO a b o 112))], .bool (stepO a b o 112).isSome]) ∧ Below w.heap.size w w' := by
  have hn := hide (step_p2 ho : stepO a b o 112 = _)
  obtain ⟨b1, b2, b3, b4⟩ := hab
  have q1 : (o == 1) = false := beq_eq_false_iff_ne.2 (by omega)
  have q2 : (o == 2) = true := beq_iff_eq.2 ho
  clear ho
  go_enter Try.func59, Try.ntmps59
  go_wp2
  go_returns
  exact ⟨ret_tk (by rw [hn.out]; rfl) (by rw [hn.out]; rfl), by go_grown⟩
theorem s_p_o0 (a b o : Int) (w : World) (hab : 0 ≤ a ∧ a ≤ 12 ∧ 0 ≤ b ∧ b ≤ 12) (ho : o = 0) :
    Calls Try.prog 59 #[.agg #[.int .i64 a, .int .i64 b, .int .i64 o], .int .u8 112] w fun e w' => e = .returned (.tuple #[.agg #[.int .i64 (tkA (stepO a b o 112)), .int .i64 (tkB (stepO a b o 112)), .int .i64 (tkO (stepO a b o 112))], .bool (stepO a b o 112).isSome]) ∧ Below w.heap.size w w' := by
  have hn := hide (step_p_no (by omega) (by omega) : stepO a b o 112 = _)
  obtain ⟨b1, b2, b3, b4⟩ := hab
  have q1 : (o == 1) = false := beq_eq_false_iff_ne.2 (by omega)
  have q2 : (o == 2) = false := beq_eq_false_iff_ne.2 (by omega)
  clear ho
  go_enter Try.func59, Try.ntmps59
  go_wp2
  go_returns
  exact ⟨ret_tk (by rw [hn.out]; rfl) (by rw [hn.out]; rfl), by go_grown⟩
theorem s_q_o1 (a b o : Int) (w : World) (hab : 0 ≤ a ∧ a ≤ 12 ∧ 0 ≤ b ∧ b ≤ 12) (ho : o = 1) :
    Calls Try.prog 59 #[.agg #[.int .i64 a, .int .i64 b, .int .i64 o], .int .u8 113] w fun e w' => e = .returned (.tuple #[.agg #[.int .i64 (tkA (stepO a b o 113)), .int .i64 (tkB (stepO a b o 113)), .int .i64 (tkO (stepO a b o 113))], .bool (stepO a b o 113).isSome]) ∧ Below w.heap.size w w' := by
  have hn := hide (step_q1 ho : stepO a b o 113 = _)
  obtain ⟨b1, b2, b3, b4⟩ := hab
  have q1 : (o == 2) = false := beq_eq_false_iff_ne.2 (by omega)
  have q2 : (o == 1) = true := beq_iff_eq.2 ho
  clear ho
  go_enter Try.func59, Try.ntmps59
  go_wp2
  go_returns
  exact ⟨ret_tk (by rw [hn.out]; rfl) (by rw [hn.out]; rfl), by go_grown⟩
theorem s_q_o2 (a b o : Int) (w : World) (hab : 0 ≤ a ∧ a ≤ 12 ∧ 0 ≤ b ∧ b ≤ 12) (ho : o = 2) :
    Calls Try.prog 59 #[.agg #[.int .i64 a, .int .i64 b, .int .i64 o], .int .u8 113] w fun e w' => e = .returned (.tuple #[.agg #[.int .i64 (tkA (stepO a b o 113)), .int .i64 (tkB (stepO a b o 113)), .int .i64 (tkO (stepO a b o 113))], .bool (stepO a b o 113).isSome]) ∧ Below w.heap.size w w' := by
  have hn := hide (step_q2 ho : stepO a b o 113 = _)
  obtain ⟨b1, b2, b3, b4⟩ := hab
  have q1 : (o == 2) = true := beq_iff_eq.2 ho
  clear ho
  go_enter Try.func59, Try.ntmps59
  go_wp2
  go_returns
  exact ⟨ret_tk (by rw [hn.out]; rfl) (by rw [hn.out]; rfl), by go_grown⟩
theorem s_q_o0 (a b o : Int) (w : World) (hab : 0 ≤ a ∧ a ≤ 12 ∧ 0 ≤ b ∧ b ≤ 12) (ho : o = 0) :
    Calls Try.prog 59 #[.agg #[.int .i64 a, .int .i64 b, .int .i64 o], .int .u8 113] w fun e w' => e = .returned (.tuple #[.agg #[.int .i64 (tkA (stepO a b o 113)), .int .i64 (tkB (stepO a b o 113)), .int .i64 (tkO (stepO a b o 113))], .bool (stepO a b o 113).isSome]) ∧ Below w.heap.size w w' := by
  have hn := hide (step_q_no (by omega) (by omega) : stepO a b o 113 = _)
  obtain ⟨b1, b2, b3, b4⟩ := hab
  have q1 : (o == 1) = false := beq_eq_false_iff_ne.2 (by omega)
  have q2 : (o == 2) = false := beq_eq_false_iff_ne.2 (by omega)
  clear ho
  go_enter Try.func59, Try.ntmps59
  go_wp2
  go_returns
  exact ⟨ret_tk (by rw [hn.out]; rfl) (by rw [hn.out]; rfl), by go_grown⟩
theorem s_else (a b o : Int) (c : UInt8) (w : World) (h1 : ¬ (c.toNat : Int) = 97) (h2 : ¬ (c.toNat : Int) = 98) (h3 : ¬ (c.toNat : Int) = 112) (h4 : ¬ (c.toNat : Int) = 113) :
    Calls Try.prog 59 #[.agg #[.int .i64 a, .int .i64 b, .int .i64 o], .int .u8 (c.toNat : Int)] w fun e w' => e = .returned (.tuple #[.agg #[.int .i64 (tkA (stepO a b o c)), .int .i64 (tkB (stepO a b o c)), .int .i64 (tkO (stepO a b o c))], .bool (stepO a b o c).isSome]) ∧ Below w.heap.size w w' := by
  have hn := hide (step_else (a := a) (b := b) (o := o) (byte_isnt (d := 97) h1) (byte_isnt (d := 98) h2) (byte_isnt (d := 112) h3) (byte_isnt (d := 113) h4))
  have q1 : ((c.toNat : Int) == 97) = false := by simpa using h1
  have q2 : ((c.toNat : Int) == 98) = false := by simpa using h2
  have q3 : ((c.toNat : Int) == 112) = false := by simpa using h3
  have q4 : ((c.toNat : Int) == 113) = false := by simpa using h4
  clear h1 h2 h3 h4
  go_enter Try.func59, Try.ntmps59
  go_wp2
  go_returns
  exact ⟨ret_tk (by rw [hn.out]; rfl) (by rw [hn.out]; rfl), by go_grown⟩
theorem sStep (a b o : Int) (c : UInt8) (w : World) (hab : 0 ≤ a ∧ a ≤ 12 ∧ 0 ≤ b ∧ b ≤ 12) (ho : 0 ≤ o ∧ o ≤ 2) :
    Calls Try.prog 59 #[.agg #[.int .i64 a, .int .i64 b, .int .i64 o], .int .u8 (c.toNat : Int)] w fun e w' => e = .returned (.tuple #[.agg #[.int .i64 (tkA (stepO a b o c)), .int .i64 (tkB (stepO a b o c)), .int .i64 (tkO (stepO a b o c))], .bool (stepO a b o c).isSome]) ∧ Below w.heap.size w w' := by
  by_cases h1 : (c.toNat : Int) = 97
  · obtain rfl := byte_is (d := 97) h1
    by_cases h0 : o = 0
    · by_cases ha : 0 < a
      · exact s_a_o0_apos a b o w hab h0 ha
      · exact s_a_o0_aneg a b o w hab h0 (by omega)
    · exact s_a_o1 a b o w hab h0
  by_cases h2 : (c.toNat : Int) = 98
  · obtain rfl := byte_is (d := 98) h2
    by_cases h0 : o = 0
    · by_cases hb : 0 < b
      · exact s_b_o0_bpos a b o w hab h0 hb
      · exact s_b_o0_bneg a b o w hab h0 (by omega)
    · exact s_b_o1 a b o w hab h0
  by_cases h3 : (c.toNat : Int) = 112
  · obtain rfl := byte_is (d := 112) h3
    rcases (show o = 0 ∨ o = 1 ∨ o = 2 by omega) with h0 | h0 | h0
    · exact s_p_o0 a b o w hab h0
    · exact s_p_o1 a b o w hab h0
    · exact s_p_o2 a b o w hab h0
  by_cases h4 : (c.toNat : Int) = 113
  · obtain rfl := byte_is (d := 113) h4
    rcases (show o = 0 ∨ o = 1 ∨ o = 2 by omega) with h0 | h0 | h0
    · exact s_q_o0 a b o w hab h0
    · exact s_q_o1 a b o w hab h0
    · exact s_q_o2 a b o w hab h0
  exact s_else a b o c w h1 h2 h3 h4
end Go.Proofs.Ytejggpejmooegaa
