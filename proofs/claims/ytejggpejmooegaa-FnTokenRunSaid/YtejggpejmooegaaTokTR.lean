/-
  The walk of FnTokenTrains.
-/
import Derived.Test.YtejggpejmooegaaTokTRP
import Derived.Test.YtejggpejmooegaaDraw3
import Derived.Test.YtejggpejmooegaaTokV
import Derived.Test.YtejggpejmooegaaTok9
namespace Go.Proofs.Ytejggpejmooegaa
open Go.RowKit
set_option linter.unusedVariables false

theorem iRun_yes (a b o x y z : Int) (s : ByteArray) (w : World) (hs : s.size ≤ 1048576) (h : runS a b o s.data.toList = some (x, y, z)) :
    Calls Try.prog 37 #[.agg #[.int .i64 a, .int .i64 b, .int .i64 o], .string s] w fun e w' => e = .returned (.tuple #[.agg #[.int .i64 x, .int .i64 y, .int .i64 z], .bool true]) ∧ Below w.heap.size w w' :=
  (iTokRun a b o s w hs).mono fun _ _ ⟨he, hw⟩ => ⟨by rw [he, h]; rfl, hw⟩
theorem iRun_no (a b o : Int) (s : ByteArray) (w : World) (hs : s.size ≤ 1048576) (h : runS a b o s.data.toList = none) :
    Calls Try.prog 37 #[.agg #[.int .i64 a, .int .i64 b, .int .i64 o], .string s] w fun e w' => e = .returned (.tuple #[.agg #[.int .i64 0, .int .i64 0, .int .i64 0], .bool false]) ∧ Below w.heap.size w w' :=
  (iTokRun a b o s w hs).mono fun _ _ ⟨he, hw⟩ => ⟨by rw [he, h]; rfl, hw⟩
set_option maxHeartbeats 2000000 in
theorem w_FnTokenTrains (a0 : Option Addr) (len0 cap0 : Nat) (z0 : List Int) (w : World) (w0 : IsRow .u8 w a0 len0 cap0 z0) :
    Calls Try.prog 13 #[.slice a0 len0 cap0] w fun e w' => e = .returned (.bool true) ∧ Below w.heap.size w w' := by
  obtain ⟨hA, hc, hm⟩ := w0.bytes
  have hAH := Lib.hid hA
  clear w0 hA
  by_cases hs0 : 1048576 < len0
  · have hd0 : decide ((1048576 : Int) < (len0 : Int)) = true := by simp; omega
    go_enter Try.func13, Try.ntmps13
    go_wp2
    go_ret
    exact ⟨rfl, Below.refl _ _⟩
  have hd0 : decide ((1048576 : Int) < (len0 : Int)) = false := by simp; omega
  go_enter Try.func13, Try.ntmps13
  go_wp2_with fail
  refine (d_DrawTokenTrains a0 len0 cap0 w hAH.out (by omega) hc hm).mono ?_
  rintro e w1 ⟨s, rfl, hsz, hb⟩
  clear hc hm hAH hs0 hd0
  have hbz := hb.size
  go_wp2_with fail
  refine (iTrains s _ (by omega)).mono ?_
  rintro e w2 ⟨rfl, hn⟩
  have hb2 : Below w.heap.size w w2 := bl hb (Nat.le_refl _) hn
  have hz2 : w.heap.size ≤ w2.heap.size := hb2.size
  clear hn hb hbz
  go_wp2_with fail
  refine (sTrains s _ (by omega)).mono ?_
  rintro e w' ⟨rfl, rfl⟩
  cases hk : trOk s.data.toList
  · clear hk
    go_wp2
    go_ret
    exact ⟨rfl, hb2⟩
  obtain ⟨a, b, u, d, e1, e2, e3, e4, hv, hab, hud, hts, hrun⟩ := tt_facts hk
  have hE3 := Lib.hid e3
  have hE4 := Lib.hid e4
  have hTS := Lib.hid hts
  clear hk e3 e4
  generalize trS s = T at *
  go_wp2_with fail
  refine (iTokNeeds s _ (by omega)).mono ?_
  rintro e w' ⟨rfl, rfl⟩
  rw [e1, e2, hv]
  clear e1 e2 hv
  by_cases h12 : 12 < a + b
  · have hd12 : decide (12 < a + b) = true := decide_eq_true h12
    clear hrun
    go_wp2
    go_ret
    exact ⟨rfl, hb2⟩
  obtain ⟨r1, r2, r3⟩ := hrun (by omega)
  have hd12 : decide (12 < a + b) = false := decide_eq_false h12
  have R1 := Lib.hid r1
  have R2 := Lib.hid r2
  have R3 := Lib.hid r3
  clear hrun r1 r2 r3
  go_wp2_with fail
  refine (iRun_yes _ _ _ _ _ _ _ _ (by omega) R1.out).mono ?_
  rintro e w3 ⟨rfl, hn⟩
  have hb3 : Below w.heap.size w w3 := bl (by go_grown) (Nat.le_refl _) hn
  have hz3 := hn.size
  (try simp at hz3)
  clear hn
  go_wp2_with fail
  refine (iRun_no _ _ _ _ _ (by omega) R2.out).mono ?_
  rintro e w4 ⟨rfl, hn⟩
  have hb4 : Below w.heap.size w w4 := bl (by go_grown) (Nat.le_refl _) hn
  have hc4_0 := fun o => hn.cell (p := ⟨w3.heap.size, o, none⟩) (by first | omega | (simp; done) | (simp; omega))
  have hf4_0 := fun o => hn.frozen (p := ⟨w3.heap.size, o, none⟩) (by first | omega | (simp; done) | (simp; omega))
  have hl4_0 : w3.heap.size < w4.heap.size := Nat.lt_of_lt_of_le (by first | omega | (simp; done) | (simp; omega)) hn.size
  (try simp only [World.size_drew, World.cell?_drew, World.frozen?_drew] at hc4_0 hf4_0)
  have hz4 := hn.size
  (try simp at hz4)
  clear hn
  go_wp2_with fail
  refine (iRun_no _ _ _ _ _ (by omega) R3.out).mono ?_
  rintro e w5 ⟨rfl, hn⟩
  have hb5 : Below w.heap.size w w5 := bl (by go_grown) (Nat.le_refl _) hn
  have hc5_0 := fun o => hn.cell (p := ⟨w3.heap.size, o, none⟩) (by first | omega | (simp; done) | (simp; omega))
  have hf5_0 := fun o => hn.frozen (p := ⟨w3.heap.size, o, none⟩) (by first | omega | (simp; done) | (simp; omega))
  have hl5_0 : w3.heap.size < w5.heap.size := Nat.lt_of_lt_of_le (by first | omega | (simp; done) | (simp; omega)) hn.size
  (try simp only [World.size_drew, World.cell?_drew, World.frozen?_drew] at hc5_0 hf5_0)
  have hz5 := hn.size
  (try simp at hz5)
  clear hn
  go_wp2_with fail
  refine (cOf s 85 85 _ (by omega) rfl).mono ?_
  rintro e w' ⟨rfl, rfl⟩
  rw [hE3.out]
  go_wp2_with fail
  refine (cOf s 68 68 _ (by omega) rfl).mono ?_
  rintro e w' ⟨rfl, rfl⟩
  rw [hE4.out]
  go_wp2
  go_ret
  exact ⟨rfl, by go_grown⟩
end Go.Proofs.Ytejggpejmooegaa
