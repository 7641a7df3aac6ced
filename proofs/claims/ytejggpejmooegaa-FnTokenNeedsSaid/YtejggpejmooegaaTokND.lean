/-
  The walks of FnTokenNeeds and FnDirections.
-/
import Derived.Test.YtejggpejmooegaaTokTuP
import Derived.Test.YtejggpejmooegaaTokC
import Derived.Test.YtejggpejmooegaaTok5
import Derived.Test.YtejggpejmooegaaTok4
namespace Go.Proofs.Ytejggpejmooegaa
open Go.RowKit
set_option linter.unusedVariables false

theorem nd_facts {s : ByteArray} (hv : dirsV s.data.toList = true) : ∃ a b : Int, needsA s.data.toList = a ∧ needsB s.data.toList = b ∧ needsA (turnS s).data.toList = b ∧ needsB (turnS s).data.toList = a ∧ dirsV (turnS s).data.toList = true ∧
    (turnS s).size ≤ 1048576 ∧ 0 ≤ a + b ∧ a + b ≤ (s.size : Int) ∧ a + b ≤ 60 ∧ ((s.size = 0 ∧ a + b = 0) ∨ (0 < s.size ∧ 0 < a + b)) := by
  have hl0 : s.data.toList.length = s.size := by simp
  obtain ⟨n1, n2⟩ := needs_yes hv
  have e : (turnS s).data.toList = turnL s.data.toList := by rw [turnS_yes hv, baOf_list]
  have hd := dirs_turn hv
  obtain ⟨m1, m2⟩ := needs_yes hd
  obtain ⟨_, t1, t2⟩ := need_turn s.data.toList
  obtain ⟨u1, u2⟩ := need_sum s.data.toList
  have hlen := dirs_len hv
  have hb := need_bounds s.data.toList
  have hts : (turnS s).size = s.size := by rw [turnS_yes hv, baOf_size]; simp [turnL]
  refine ⟨needA s.data.toList, needB s.data.toList, n1, n2, by rw [e, m1, t1], by rw [e, m2, t2], by rw [e]; exact hd, by omega, by omega, by omega, by omega, ?_⟩
  rcases u2 with u2 | u2
  · have h0 : s.size = 0 := by rw [← hl0, u2]; rfl
    exact .inl ⟨h0, by omega⟩
  · by_cases h0 : s.size = 0
    · omega
    · exact .inr ⟨by omega, by omega⟩
theorem ududud : needsA (⟨#[85, 68, 85, 68, 85, 68]⟩ : ByteArray).data.toList = 1 ∧ needsB (⟨#[85, 68, 85, 68, 85, 68]⟩ : ByteArray).data.toList = 0 ∧ dirsV (⟨#[85, 68, 85, 68, 85, 68]⟩ : ByteArray).data.toList = true := by decide

set_option maxHeartbeats 1000000 in
theorem w_FnTokenNeeds (a0 : Option Addr) (len0 cap0 : Nat) (z0 : List Int) (w : World) (w0 : IsRow .u8 w a0 len0 cap0 z0) :
    Calls Try.prog 6 #[.slice a0 len0 cap0] w fun e w' => e = .returned (.bool true) ∧ Below w.heap.size w w' := by
  obtain ⟨hA, hc, hm⟩ := w0.bytes
  have hAH := Lib.hid hA
  clear w0 hA
  by_cases hs0 : 1048576 < len0
  · have hd0 : decide ((1048576 : Int) < (len0 : Int)) = true := by simp; omega
    go_enter Try.func6, Try.ntmps6
    go_wp2
    go_ret
    exact ⟨rfl, Below.refl _ _⟩
  have hd0 : decide ((1048576 : Int) < (len0 : Int)) = false := by simp; omega
  go_enter Try.func6, Try.ntmps6
  go_wp2_with fail
  refine (d_DrawTokenNeeds a0 len0 cap0 w hAH.out (by omega) hc hm).mono ?_
  rintro e w1 ⟨s, rfl, hsz, hb⟩
  clear hc hm hAH hs0 hd0
  go_wp2_with fail
  refine (iTokNeeds s _ (by omega)).mono ?_
  rintro e w' ⟨rfl, rfl⟩
  go_wp2_with fail
  refine (sTokNeeds s _ (by omega)).mono ?_
  rintro e w' ⟨rfl, rfl⟩
  cases hv : dirsV s.data.toList
  · obtain ⟨n1, n2⟩ := needs_no hv
    rw [n1, n2]
    clear hv n1 n2
    go_wp2
    go_ret
    exact ⟨rfl, hb⟩
  obtain ⟨a, b, e1, e2, e3, e4, e5, hts, p0, p1, p2, hcs⟩ := nd_facts hv
  obtain ⟨q1, q2, q3⟩ := ududud
  have E3 := Lib.hid e3
  have E4 := Lib.hid e4
  have E5 := Lib.hid e5
  have Q1 := Lib.hid q1
  have Q2 := Lib.hid q2
  have Q3 := Lib.hid q3
  have hC := Lib.hid hcs
  have hV := Lib.hid hv
  rw [e1, e2]
  clear e1 e2 e3 e4 e5 q1 q2 q3 hcs hv
  have hw1 : IntKind.i64.wrap (a + b) = a + b := IntWalk.i64_in _ (by omega)
  have hd1 : decide (a + b ≤ (s.size : Int)) = true := decide_eq_true p1
  go_wp2_with fail
  refine (iTurn s _ (by omega)).mono ?_
  rintro e w2 ⟨rfl, hn⟩
  rw [hV.out]
  have hb2 : Below w.heap.size w w2 := bl hb (Nat.le_refl _) hn
  clear hn hb
  go_wp2_with fail
  refine (iTokNeeds (turnS s) _ hts).mono ?_
  rintro e w' ⟨rfl, rfl⟩
  rw [E3.out, E4.out, E5.out]
  go_wp2_with fail
  refine (iTokNeeds _ _ (by decide)).mono ?_
  rintro e w' ⟨rfl, rfl⟩
  rw [Q1.out, Q2.out, Q3.out]
  rcases hC.out with ⟨h1, h2⟩ | ⟨h1, h2⟩
  · have hd2 : decide (0 < a + b) = false := decide_eq_false (by omega)
    have hd3 : decide ((0 : Int) < (s.size : Int)) = false := decide_eq_false (by omega)
    have hE := Lib.hid (ByteArray.size_eq_zero_iff.1 h1)
    clear h1 h2 hC
    go_wp2
    all_goals first
      | (rename_i h; exact absurd hE.out h)
      | (go_ret; exact ⟨rfl, hb2⟩)
  · have hd2 : decide (0 < a + b) = true := decide_eq_true (by omega)
    have hd3 : decide ((0 : Int) < (s.size : Int)) = true := decide_eq_true (by omega)
    have hE := Lib.hid h1
    clear h1 h2 hC
    go_wp2
    all_goals first
      | (rename_i h; exact absurd hE.out h)
      | (go_ret; exact ⟨rfl, hb2⟩)
end Go.Proofs.Ytejggpejmooegaa
