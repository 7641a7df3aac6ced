/-
  The walk of FnTokenCarry.
-/
import Derived.Test.YtejggpejmooegaaTokTR
import Derived.Test.YtejggpejmooegaaTok8
import Derived.Test.YtejggpejmooegaaDraw7
namespace Go.Proofs.Ytejggpejmooegaa
open Go.RowKit
set_option linter.unusedVariables false

/-- What is known of the tokens that are carried. -/
theorem cy_facts {a b o n : Int} {s : ByteArray} (h : carryO a b o s.data.toList = some n) : (0 ≤ a ∧ a ≤ 12 ∧ 0 ≤ b ∧ b ≤ 12 ∧ a + b ≤ 12) ∧ o = 0 ∧ dirsV s.data.toList = true ∧ (-12 ≤ n ∧ n ≤ 12) ∧
    (trOk s.data.toList = true → (∃ x y z, runS (a + n) (b - n) 0 (trS s).data.toList = some (x, y, z)) ∧
      ((n = 0 ∧ ∃ x y z, runS a b 0 (trS s).data.toList = some (x, y, z)) ∨ (0 < n ∧ runS a b 0 (trS s).data.toList = none ∧ runS (a + n - 1) (b - n + 1) 0 (trS s).data.toList = none) ∨ (n < 0 ∧ runS a b 0 (trS s).data.toList = none ∧ runS (a + n - -1) (b - n + -1) 0 (trS s).data.toList = none))) := by
  unfold carryO at h
  split at h
  rotate_left
  · cases h
  rename_i hc
  obtain ⟨⟨hv, ho⟩, hd⟩ := hc
  rw [tokV_iff] at hv
  have hb := need_bounds s.data.toList
  have yes : ∀ p q : Int, 0 ≤ p ∧ 0 ≤ q ∧ p + q ≤ 12 → needA s.data.toList ≤ p → needB s.data.toList ≤ q → trOk s.data.toList = true → ∃ x y z, runS p q 0 (trS s).data.toList = some (x, y, z) := fun p q h1 h2 h3 h4 => by
    rw [tr_run h4 p q h1, if_pos ⟨h2, h3⟩]; exact ⟨_, _, _, rfl⟩
  have no : ∀ p q : Int, 0 ≤ p ∧ 0 ≤ q ∧ p + q ≤ 12 → ¬ (needA s.data.toList ≤ p ∧ needB s.data.toList ≤ q) → trOk s.data.toList = true → runS p q 0 (trS s).data.toList = none := fun p q h1 h2 h4 => by
    rw [tr_run h4 p q h1, if_neg h2]
  split at h
  · cases h
  rename_i h1
  split at h
  · rename_i h2
    simp only [Option.some.injEq] at h
    subst h
    exact ⟨by omega, ho, hd, by omega, fun hk => ⟨yes _ _ (by omega) (by omega) (by omega) hk, .inr (.inl ⟨by omega, no _ _ (by omega) (by omega) hk, no _ _ (by omega) (by omega) hk⟩)⟩⟩
  · rename_i h2
    split at h
    · rename_i h3
      simp only [Option.some.injEq] at h
      subst h
      exact ⟨by omega, ho, hd, by omega, fun hk => ⟨yes _ _ (by omega) (by omega) (by omega) hk, .inr (.inr ⟨by omega, no _ _ (by omega) (by omega) hk, no _ _ (by omega) (by omega) hk⟩)⟩⟩
    · rename_i h3
      simp only [Option.some.injEq] at h
      subst h
      exact ⟨by omega, ho, hd, by omega, fun hk => ⟨yes _ _ (by omega) (by omega) (by omega) hk, .inl ⟨rfl, yes _ _ (by omega) (by omega) (by omega) hk⟩⟩⟩
theorem iCy_yes (a b o n : Int) (s : ByteArray) (w : World) (hs : s.size ≤ 1048576) (h : carryO a b o s.data.toList = some n) :
    Calls Try.prog 50 #[.agg #[.int .i64 a, .int .i64 b, .int .i64 o], .string s] w fun e w' => e = .returned (.tuple #[.int .i64 n, .bool true]) ∧ Below w.heap.size w w' :=
  (iCarry a b o s w hs).mono fun _ _ ⟨he, hw⟩ => ⟨by rw [he, h]; rfl, hw⟩
theorem iCy_no (a b o : Int) (s : ByteArray) (w : World) (hs : s.size ≤ 1048576) (h : carryO a b o s.data.toList = none) :
    Calls Try.prog 50 #[.agg #[.int .i64 a, .int .i64 b, .int .i64 o], .string s] w fun e w' => e = .returned (.tuple #[.int .i64 0, .bool false]) ∧ Below w.heap.size w w' :=
  (iCarry a b o s w hs).mono fun _ _ ⟨he, hw⟩ => ⟨by rw [he, h]; rfl, hw⟩
theorem sCy_yes (a b o n : Int) (s : ByteArray) (w : World) (hs : s.size ≤ 1048576) (h : carryO a b o s.data.toList = some n) :
    Calls Try.prog 51 #[.agg #[.int .i64 a, .int .i64 b, .int .i64 o], .string s] w fun e w' => e = .returned (.tuple #[.int .i64 n, .bool true]) ∧ Below w.heap.size w w' :=
  (sCarry a b o s w hs).mono fun _ _ ⟨he, hw⟩ => ⟨by rw [he, h]; rfl, hw⟩
theorem sCy_no (a b o : Int) (s : ByteArray) (w : World) (hs : s.size ≤ 1048576) (h : carryO a b o s.data.toList = none) :
    Calls Try.prog 51 #[.agg #[.int .i64 a, .int .i64 b, .int .i64 o], .string s] w fun e w' => e = .returned (.tuple #[.int .i64 0, .bool false]) ∧ Below w.heap.size w w' :=
  (sCarry a b o s w hs).mono fun _ _ ⟨he, hw⟩ => ⟨by rw [he, h]; rfl, hw⟩
theorem three_call {w w' : World} {b : Nat} {x y z : Value} (h : Bx w b [x, y, z]) (hb : Below w.heap.size w w') : Bx w' b [x, y, z] ∧ (w'.cell? ⟨b, 0, none⟩ = some x ∧ w'.cell? ⟨b, 1, none⟩ = some y ∧ w'.cell? ⟨b, 2, none⟩ = some z) := ⟨h.call hb, (h.call hb).three.1⟩
theorem iRun_o (r : Option Tk) (a b o : Int) (s : ByteArray) (w : World) (hs : s.size ≤ 1048576) (h : runS a b o s.data.toList = r) :
    Calls Try.prog 37 #[.agg #[.int .i64 a, .int .i64 b, .int .i64 o], .string s] w fun e w' => (∃ x y z : Int, e = .returned (.tuple #[.agg #[.int .i64 x, .int .i64 y, .int .i64 z], .bool r.isSome])) ∧ Below w.heap.size w w' :=
  (iTokRun a b o s w hs).mono fun _ _ ⟨he, hw⟩ => ⟨by subst h; exact ⟨_, _, _, he⟩, hw⟩
set_option maxHeartbeats 4000000 in
theorem w_FnTokenCarry (a0 : Option Addr) (len0 cap0 : Nat) (z0 : List Int) (w : World) (w0 : IsRow .u8 w a0 len0 cap0 z0) :
    Calls Try.prog 14 #[.slice a0 len0 cap0] w fun e w' => e = .returned (.bool true) ∧ Below w.heap.size w w' := by
  obtain ⟨hA, hc, hm⟩ := w0.bytes
  have hAH := Lib.hid hA
  clear w0 hA
  by_cases hs0 : 1048576 < len0
  · have hd0 : decide ((1048576 : Int) < (len0 : Int)) = true := by simp; omega
    go_enter Try.func14, Try.ntmps14
    go_wp2
    go_ret
    exact ⟨rfl, Below.refl _ _⟩
  have hd0 : decide ((1048576 : Int) < (len0 : Int)) = false := by simp; omega
  go_enter Try.func14, Try.ntmps14
  go_wp2_with fail
  refine (d_DrawTokenCarry a0 len0 cap0 w hAH.out (by omega) hc hm).mono ?_
  rintro e w1 ⟨a, b, o, s, rfl, hab, hsz, hb⟩
  clear hc hm hAH hs0 hd0
  have hz1 := hb.size
  have hT := Bx.new w1 [.int .i64 a, .int .i64 b, .int .i64 o] 27
  cases hcy : carryO a b o s.data.toList with
  | none =>
    have C := Lib.hid hcy
    clear hcy
    go_wp2_with fail
    refine (iCy_no a b o s _ (by omega) C.out).mono ?_
    rintro e w2 ⟨rfl, hn⟩
    obtain ⟨hT, c0, c1, c2⟩ := three_call hT hn
    have hlT := hT.lt
    have hb2 : Below w.heap.size w w2 := bl (by go_grown) (Nat.le_refl _) hn
    clear hn hb
    go_wp2_with fail
    refine (sCy_no a b o s _ (by omega) C.out).mono ?_
    rintro e w3 ⟨rfl, hn⟩
    have hb3 := bl hb2 (Nat.le_refl _) hn
    clear hn
    go_wp2
    go_ret
    exact ⟨rfl, hb3⟩
  | some n =>
    obtain ⟨hbd, rfl, hdv, hn12, hrun⟩ := cy_facts hcy
    have C := Lib.hid hcy
    have RUN := Lib.hid hrun
    clear hcy hrun
    obtain ⟨hbd1, hbd2, hbd3, hbd4, hbd5⟩ := hbd
    obtain ⟨hn1, hn2⟩ := hn12
    have hs30 := dirs_len hdv
    have DV := Lib.hid hdv
    clear hdv hab
    go_wp2_with fail
    refine (iCy_yes a b 0 n s _ (by omega) C.out).mono ?_
    rintro e w2 ⟨rfl, hn⟩
    obtain ⟨hT, c0, c1, c2⟩ := three_call hT hn
    have hlT := hT.lt
    have hb2 : Below w.heap.size w w2 := bl (by go_grown) (Nat.le_refl _) hn
    clear hn hb
    go_wp2_with fail
    refine (sCy_yes a b 0 n s _ (by omega) C.out).mono ?_
    rintro e w3 ⟨rfl, hn⟩
    obtain ⟨hT, c0, c1, c2⟩ := three_call hT hn
    have hlT := hT.lt
    have hb := bl hb2 (Nat.le_refl _) hn
    clear hn hb2
    go_wp2_with fail
    refine (iTrains s _ (by omega)).mono ?_
    rintro e w4 ⟨rfl, hn⟩
    obtain ⟨hT, c0, c1, c2⟩ := three_call hT hn
    have hlT := hT.lt
    have hb := bl hb (Nat.le_refl _) hn
    clear hn
    cases hk : trOk s.data.toList
    · have h15 : 15 < s.size := by
        by_cases h : 30 < 2 * s.size
        · omega
        · rw [trOk_yes DV.out h] at hk; cases hk
      have hd : decide ((15 : Int) < (s.size : Int)) = true := decide_eq_true (by omega)
      have hd2 : decide (15 < s.size) = true := decide_eq_true h15
      clear hk
      go_wp2
      go_ret
      exact ⟨rfl, hb⟩
    obtain ⟨⟨x1, y1, z1, hr1⟩, hcs⟩ := RUN.out hk
    have hts : (trS s).size ≤ 1048576 := by
      have h30 : 2 * s.size ≤ 30 := by
        by_cases h : 30 < 2 * s.size
        · rw [trOk_long h] at hk; cases hk
        · omega
      rw [trS_yes hk, baOf_size, trL_len]; simp; omega
    have R1 := Lib.hid hr1
    have TS := Lib.hid hts
    clear hr1 hk hts
    generalize trS s = tx at *
    go_wp2_with fail
    refine (iRun_yes (a + n) (b - n) 0 x1 y1 z1 tx _ TS.out R1.out).mono ?_
    rintro e u1 ⟨rfl, hn⟩
    obtain ⟨hT, c0, c1, c2⟩ := three_call hT hn
    have hlT := hT.lt
    have hb := bl hb (Nat.le_refl _) hn
    clear hn
    rcases hcs with ⟨hn0, x2, y2, z2, hr2⟩ | ⟨hn0, hr2, hr3⟩ | ⟨hn0, hr2, hr3⟩
    · subst hn0
      have R2 := Lib.hid hr2
      clear hr2
      go_wp2_with fail
      refine (iRun_yes a b 0 x2 y2 z2 tx _ TS.out R2.out).mono ?_
      rintro e u2 ⟨rfl, hn⟩
      obtain ⟨hT, c0, c1, c2⟩ := three_call (hT.alloc _) hn
      have hlT := hT.lt
      have hb := bl (hb.alloc (by have := hb.size; omega) _) (Nat.le_refl _) hn
      clear hn
      have dn : decide ((0 : Int) < 0) = false := decide_eq_false (by omega)
      go_wp2_with fail
      refine (iRun_o _ (a - 1) (b + 1) 0 tx _ TS.out rfl).mono ?_
      rintro e u3 ⟨⟨x3, y3, z3, rfl⟩, hn⟩
      obtain ⟨hT, c0, c1, c2⟩ := three_call (hT.alloc _) hn
      have hb := bl (hb.alloc (by have := hb.size; omega) _) (Nat.le_refl _) hn
      clear hn
      go_wp2
      go_ret
      refine ⟨?_, hb.alloc (by have := hb.size; omega) _⟩
      first | rfl | (simp; omega)
    · have R2 := Lib.hid hr2
      have R3 := Lib.hid hr3
      clear hr2 hr3
      have dn : decide (n < 0) = false := decide_eq_false (by omega)
      have dz : decide (n = 0) = false := decide_eq_false (by omega)
      go_wp2_with fail
      refine (iRun_no a b 0 tx _ TS.out R2.out).mono ?_
      rintro e u2 ⟨rfl, hn⟩
      obtain ⟨hT, c0, c1, c2⟩ := three_call (hT.alloc _) hn
      have hlT := hT.lt
      have hb := bl (hb.alloc (by have := hb.size; omega) _) (Nat.le_refl _) hn
      clear hn
      go_wp2_with fail
      refine (iRun_no (a + n - 1) (b - n + 1) 0 tx _ TS.out R3.out).mono ?_
      rintro e u3 ⟨rfl, hn⟩
      obtain ⟨hT, c0, c1, c2⟩ := three_call (hT.alloc _) hn
      have hb := bl (hb.alloc (by have := hb.size; omega) _) (Nat.le_refl _) hn
      clear hn
      go_wp2
      go_ret
      refine ⟨?_, hb.alloc (by have := hb.size; omega) _⟩
      first | rfl | (simp; omega)
    · have R2 := Lib.hid hr2
      have R3 := Lib.hid hr3
      clear hr2 hr3
      have dn : decide (n < 0) = true := decide_eq_true (by omega)
      have dz : decide (n = 0) = false := decide_eq_false (by omega)
      go_wp2_with fail
      refine (iRun_no a b 0 tx _ TS.out R2.out).mono ?_
      rintro e u2 ⟨rfl, hn⟩
      obtain ⟨hT, c0, c1, c2⟩ := three_call (hT.alloc _) hn
      have hlT := hT.lt
      have hb := bl (hb.alloc (by have := hb.size; omega) _) (Nat.le_refl _) hn
      clear hn
      go_wp2_with fail
      refine (iRun_no (a + n + 1) (b - n + -1) 0 tx _ TS.out (by have h := R3.out; rwa [show a + n - -1 = a + n + 1 by omega] at h)).mono ?_
      rintro e u3 ⟨rfl, hn⟩
      obtain ⟨hT, c0, c1, c2⟩ := three_call (hT.alloc _) hn
      have hb := bl (hb.alloc (by have := hb.size; omega) _) (Nat.le_refl _) hn
      clear hn
      go_wp2
      go_ret
      refine ⟨?_, hb.alloc (by have := hb.size; omega) _⟩
      first | rfl | (simp; omega)
end Go.Proofs.Ytejggpejmooegaa
