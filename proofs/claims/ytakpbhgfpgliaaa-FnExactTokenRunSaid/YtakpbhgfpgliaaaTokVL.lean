/-
  The walk of FnExactTokenRun.
-/
import Derived.Test.YtakpbhgfpgliaaaTokV
namespace Go.Proofs.Ytakpbhgfpgliaaa
open Go.RowKit

set_option maxHeartbeats 1000000 in
theorem w_FnExactTokenRun (a0 b0 o0 : Int) (a1 : ByteArray) (w : World) (_wa0 : (Lit.int .i64 a0).wf = true) (_wb0 : (Lit.int .i64 b0).wf = true) (_wo0 : (Lit.int .i64 o0).wf = true) (_w1 : a1.size ≤ maxLen) :
    Calls Try.prog 13 #[.agg #[.int .i64 a0, .int .i64 b0, .int .i64 o0], .string a1] w fun e w' => e = .returned (.bool true) ∧ Below w.heap.size w w' := by
  unfold maxLen at _w1
  clear _wa0 _wb0 _wo0
  by_cases hs1 : 1048576 < a1.size
  · have hd1 : decide ((1048576 : Int) < (a1.size : Int)) = true := by simp; omega
    go_enter Try.func13, Try.ntmps13
    go_wp2
    go_ret
    exact ⟨rfl, by go_grown⟩
  have hd1 : decide ((1048576 : Int) < (a1.size : Int)) = false := by simp; omega
  go_enter Try.func13, Try.ntmps13
  go_wp2_with fail
  refine (toTok _ _ _ _).mono ?_
  rintro e w1 ⟨rfl, hn⟩
  have hb1 : Below w.heap.size w w1 := bl (by go_grown) (Nat.le_refl _) hn
  have hc1_0 := fun o => hn.cell (p := ⟨w.heap.size, o, none⟩) (by first | omega | (simp; done) | (simp; omega))
  have hf1_0 := fun o => hn.frozen (p := ⟨w.heap.size, o, none⟩) (by first | omega | (simp; done) | (simp; omega))
  have hl1_0 : w.heap.size < w1.heap.size := Nat.lt_of_lt_of_le (by first | omega | (simp; done) | (simp; omega)) hn.size
  (try simp only [World.size_drew, World.cell?_drew, World.frozen?_drew] at hc1_0 hf1_0)
  have hz1 := hn.size
  (try simp at hz1)
  clear hn
  go_wp2_with fail
  refine (sTokRun _ _ _ _ _ (by omega)).mono ?_
  rintro e w2 ⟨rfl, hn⟩
  have hb2 : Below w.heap.size w w2 := bl (by go_grown) (Nat.le_refl _) hn
  have hc2_0 := fun o => hn.cell (p := ⟨w.heap.size, o, none⟩) (by first | omega | (simp; done) | (simp; omega))
  have hf2_0 := fun o => hn.frozen (p := ⟨w.heap.size, o, none⟩) (by first | omega | (simp; done) | (simp; omega))
  have hl2_0 : w.heap.size < w2.heap.size := Nat.lt_of_lt_of_le (by first | omega | (simp; done) | (simp; omega)) hn.size
  (try simp only [World.size_drew, World.cell?_drew, World.frozen?_drew] at hc2_0 hf2_0)
  have hz2 := hn.size
  (try simp at hz2)
  clear hn
  go_wp2_with fail
  refine (toTok _ _ _ _).mono ?_
  rintro e w3 ⟨rfl, hn⟩
  have hb3 : Below w.heap.size w w3 := bl (by go_grown) (Nat.le_refl _) hn
  have hc3_0 := fun o => hn.cell (p := ⟨w.heap.size, o, none⟩) (by first | omega | (simp; done) | (simp; omega))
  have hf3_0 := fun o => hn.frozen (p := ⟨w.heap.size, o, none⟩) (by first | omega | (simp; done) | (simp; omega))
  have hl3_0 : w.heap.size < w3.heap.size := Nat.lt_of_lt_of_le (by first | omega | (simp; done) | (simp; omega)) hn.size
  (try simp only [World.size_drew, World.cell?_drew, World.frozen?_drew] at hc3_0 hf3_0)
  have hc3_1 := fun o => hn.cell (p := ⟨w2.heap.size, o, none⟩) (by first | omega | (simp; done) | (simp; omega))
  have hf3_1 := fun o => hn.frozen (p := ⟨w2.heap.size, o, none⟩) (by first | omega | (simp; done) | (simp; omega))
  have hl3_1 : w2.heap.size < w3.heap.size := Nat.lt_of_lt_of_le (by first | omega | (simp; done) | (simp; omega)) hn.size
  (try simp only [World.size_drew, World.cell?_drew, World.frozen?_drew] at hc3_1 hf3_1)
  have hz3 := hn.size
  (try simp at hz3)
  clear hn
  go_wp2_with fail
  refine (iTokRun _ _ _ _ _ (by omega)).mono ?_
  rintro e w4 ⟨rfl, hn⟩
  have hb4 : Below w.heap.size w w4 := bl (by go_grown) (Nat.le_refl _) hn
  have hc4_0 := fun o => hn.cell (p := ⟨w.heap.size, o, none⟩) (by first | omega | (simp; done) | (simp; omega))
  have hf4_0 := fun o => hn.frozen (p := ⟨w.heap.size, o, none⟩) (by first | omega | (simp; done) | (simp; omega))
  have hl4_0 : w.heap.size < w4.heap.size := Nat.lt_of_lt_of_le (by first | omega | (simp; done) | (simp; omega)) hn.size
  (try simp only [World.size_drew, World.cell?_drew, World.frozen?_drew] at hc4_0 hf4_0)
  have hc4_1 := fun o => hn.cell (p := ⟨w2.heap.size, o, none⟩) (by first | omega | (simp; done) | (simp; omega))
  have hf4_1 := fun o => hn.frozen (p := ⟨w2.heap.size, o, none⟩) (by first | omega | (simp; done) | (simp; omega))
  have hl4_1 : w2.heap.size < w4.heap.size := Nat.lt_of_lt_of_le (by first | omega | (simp; done) | (simp; omega)) hn.size
  (try simp only [World.size_drew, World.cell?_drew, World.frozen?_drew] at hc4_1 hf4_1)
  have hz4 := hn.size
  (try simp at hz4)
  clear hn
  go_wp2_with fail
  refine (eqTok_self _ _ _ _).mono ?_
  rintro e w5 ⟨rfl, hn⟩
  have hb5 : Below w.heap.size w w5 := bl (by go_grown) (Nat.le_refl _) hn
  have hc5_0 := fun o => hn.cell (p := ⟨w.heap.size, o, none⟩) (by first | omega | (simp; done) | (simp; omega))
  have hf5_0 := fun o => hn.frozen (p := ⟨w.heap.size, o, none⟩) (by first | omega | (simp; done) | (simp; omega))
  have hl5_0 : w.heap.size < w5.heap.size := Nat.lt_of_lt_of_le (by first | omega | (simp; done) | (simp; omega)) hn.size
  (try simp only [World.size_drew, World.cell?_drew, World.frozen?_drew] at hc5_0 hf5_0)
  have hz5 := hn.size
  (try simp at hz5)
  clear hn
  go_wp2
  go_returns
  exact ⟨rfl, by go_grown⟩
end Go.Proofs.Ytakpbhgfpgliaaa
