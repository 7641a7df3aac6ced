/-
  The walk of FnTokenStep.
-/
import Derived.Test.YtejggpejmooegaaTokTSP
import Derived.Test.YtejggpejmooegaaTokV
import Derived.Test.YtejggpejmooegaaDraw6
import Derived.Deep.RegionHeld3
import Derived.Laws.StructEq
import Derived.Deep.DeepCutAuto
namespace Go.Proofs.Ytejggpejmooegaa
open Go.RowKit
set_option linter.unusedVariables false

theorem tokStruct : Try.prog.underlying 27 = some (.struct (Try.prog.fieldsOf 27)) := by kernel_rfl
theorem tokHeld : Try.prog.stoodInHeld 27 = false := by kernel_rfl
theorem tokGuard : Try.prog.eqGuardType Try.prog.depth 27 = false := by kernel_rfl
theorem tokEq (a b o : Int) (w : World) : (Op.equalIn 10000 27 (.agg #[.int .i64 a, .int .i64 b, .int .i64 o]) (.agg #[.int .i64 a, .int .i64 b, .int .i64 o])).run Try.prog w = .ok true w := by
  have u3 := Try.underlying3
  have a3 := Try.isAgg3
  have z3 := Try.sizeOf3
  rw [show (10000 : Nat) = 9999 + 1 from rfl, run_equalIn_agg w 9999 27 _ _ tokStruct tokHeld]
  simp only [Program.fieldsOf, Try.underlying27]
  go_simp
theorem tokEql (a b o : Int) (w : World) : (binOp .eql 27 (.agg #[.int .i64 a, .int .i64 b, .int .i64 o]) (.agg #[.int .i64 a, .int .i64 b, .int .i64 o])).run Try.prog w = .ok (.bool true) w := by
  rw [run_eql_struct, tokEq]; rfl
theorem tokNeq (a b o : Int) (w : World) : (binOp .neq 27 (.agg #[.int .i64 a, .int .i64 b, .int .i64 o]) (.agg #[.int .i64 a, .int .i64 b, .int .i64 o])).run Try.prog w = .ok (.bool false) w := by
  rw [run_neq_struct, tokEq]; rfl
theorem tokOf (a b o : Int) (w : World) (h : -100 ≤ a ∧ a ≤ 100 ∧ -100 ≤ b ∧ b ≤ 100) :
    Calls Try.prog 22 #[.agg #[.int .i64 a, .int .i64 b, .int .i64 o]] w fun e w' => e = .returned (.int .i64 (tokN a b o)) ∧ Below w.heap.size w w' := by
  by_cases ho : 0 < o
  · have hd : decide (0 < o) = true := decide_eq_true ho
    have hn : Hid (tokN a b o = a + b + 1) := if_pos ho
    go_enter Try.func22, Try.ntmps22
    go_wp2
    go_ret
    exact ⟨ret_int (by rw [hn.out]), by go_grown⟩
  · have hd : decide (0 < o) = false := decide_eq_false ho
    have hn : Hid (tokN a b o = a + b) := if_neg ho
    go_enter Try.func22, Try.ntmps22
    go_wp2
    go_ret
    exact ⟨ret_int (by rw [hn.out]), by go_grown⟩
theorem ts_facts {a b o : Int} {s : ByteArray} {x y z : Int} (h : stepS a b o s.data.toList = some (x, y, z)) : tokV a b o = true ∧ tokV x y z = true ∧ tokN x y z = tokN a b o ∧
    ((o = 0 ∧ 0 < z ∧ stepS x y z (⟨#[113]⟩ : ByteArray).data.toList = some (a, b, o)) ∨ (0 < o ∧ z = 0 ∧ (s = ⟨#[112]⟩ ∨ s = ⟨#[113]⟩))) := by
  unfold stepS at h
  split at h
  rotate_left
  · cases h
  rename_i hv
  split at h
  rotate_left
  · cases h
  rename_i c hc
  obtain ⟨h1, h2, h3⟩ := stepO_facts hv h
  refine ⟨hv, h1, h2, ?_⟩
  have hs : s = ⟨#[c]⟩ := by
    apply ByteArray.ext
    apply Array.toList_inj.1
    rw [hc]
  rcases h3 with ⟨p, q, r⟩ | ⟨p, q, r⟩
  · refine .inl ⟨p, q, ?_⟩
    unfold stepS; rw [if_pos h1]; exact r
  · refine .inr ⟨p, q, ?_⟩
    rcases r with rfl | rfl
    · exact .inl hs
    · exact .inr hs
theorem sTStep_yes (a b o x y z : Int) (s : ByteArray) (w : World) (e0 : stepS a b o s.data.toList = some (x, y, z)) :
    Calls Try.prog 20 #[.agg #[.int .i64 a, .int .i64 b, .int .i64 o], .string s] w fun e w' => e = .returned (.tuple #[.agg #[.int .i64 x, .int .i64 y, .int .i64 z], .bool true]) ∧ Below w.heap.size w w' :=
  (sTokStep a b o s w).mono fun _ _ ⟨he, hw⟩ => ⟨by rw [he, e0]; rfl, hw⟩
theorem undrewT {w w' : World} (h : Below w.drew.heap.size w.drew w') : Below w.heap.size w w' := ⟨h.os, h.tape, h.output, h.size, h.block⟩
theorem three_call {w w' : World} {b : Nat} {x y z : Value} (h : Bx w b [x, y, z]) (hb : Below w.heap.size w w') : Bx w' b [x, y, z] ∧ (w'.cell? ⟨b, 0, none⟩ = some x ∧ w'.cell? ⟨b, 1, none⟩ = some y ∧ w'.cell? ⟨b, 2, none⟩ = some z) := ⟨h.call hb, (h.call hb).three.1⟩
theorem tokOf_is (a b o n : Int) (w : World) (h : -100 ≤ a ∧ a ≤ 100 ∧ -100 ≤ b ∧ b ≤ 100) (hn : tokN a b o = n) :
    Calls Try.prog 22 #[.agg #[.int .i64 a, .int .i64 b, .int .i64 o]] w fun e w' => e = .returned (.int .i64 n) ∧ Below w.heap.size w w' := by rw [← hn]; exact tokOf a b o w h
set_option maxHeartbeats 4000000 in
set_option maxRecDepth 200000 in
theorem w_FnTokenStep (a0 : Option Addr) (len0 cap0 : Nat) (z0 : List Int) (w : World) (w0 : IsRow .u8 w a0 len0 cap0 z0) :
    Calls Try.prog 4 #[.slice a0 len0 cap0] w fun e w' => e = .returned (.bool true) ∧ Below w.heap.size w w' := by
  obtain ⟨hA, hc, hm⟩ := w0.bytes
  have hAH := Lib.hid hA
  clear w0 hA
  by_cases hs0 : 1048576 < len0
  · have hd0 : decide ((1048576 : Int) < (len0 : Int)) = true := by simp; omega
    go_enter Try.func4, Try.ntmps4
    go_wp2
    go_ret
    exact ⟨rfl, Below.refl _ _⟩
  have hd0 : decide ((1048576 : Int) < (len0 : Int)) = false := by simp; omega
  go_enter Try.func4, Try.ntmps4
  go_wp2_with fail
  refine (d_DrawTokenStep a0 len0 cap0 w hAH.out (by omega) hc hm).mono ?_
  rintro e w1 ⟨a, b, o, s, rfl, hab, hsz, hb⟩
  clear hc hm hAH hs0 hd0
  have hz1 := hb.size
  cases hst : stepS a b o s.data.toList with
  | none =>
    have hS := Lib.hid hst
    clear hst
    go_wp2_with fail
    refine (iStep_no _ _ _ _ _ hS.out).mono ?_
    rintro e w2 ⟨rfl, hn⟩
    have hb2 : Below w.heap.size w w2 := bl (by go_grown) (Nat.le_refl _) hn
    have hc2_0 := fun o => hn.cell (p := ⟨w1.heap.size, o, none⟩) (by first | omega | (simp; done) | (simp; omega))
    have hf2_0 := fun o => hn.frozen (p := ⟨w1.heap.size, o, none⟩) (by first | omega | (simp; done) | (simp; omega))
    have hl2_0 : w1.heap.size < w2.heap.size := Nat.lt_of_lt_of_le (by first | omega | (simp; done) | (simp; omega)) hn.size
    (try simp only [World.size_drew, World.cell?_drew, World.frozen?_drew] at hc2_0 hf2_0)
    have hz2 := hn.size
    (try simp at hz2)
    clear hn
    have hsS := sTokStep a b o s
    rw [hS.out] at hsS
    have hsH := Lib.hid hsS
    clear hsS
    go_wp2_with fail
    refine (hsH.out _).mono ?_
    rintro e w3 ⟨rfl, hn⟩
    have hb3 : Below w.heap.size w w3 := bl (by go_grown) (Nat.le_refl _) hn
    have hc3_0 := fun o => hn.cell (p := ⟨w1.heap.size, o, none⟩) (by first | omega | (simp; done) | (simp; omega))
    have hf3_0 := fun o => hn.frozen (p := ⟨w1.heap.size, o, none⟩) (by first | omega | (simp; done) | (simp; omega))
    have hl3_0 : w1.heap.size < w3.heap.size := Nat.lt_of_lt_of_le (by first | omega | (simp; done) | (simp; omega)) hn.size
    (try simp only [World.size_drew, World.cell?_drew, World.frozen?_drew] at hc3_0 hf3_0)
    have hc3_1 := fun o => hn.cell (p := ⟨w2.heap.size, o, none⟩) (by first | omega | (simp; done) | (simp; omega))
    have hf3_1 := fun o => hn.frozen (p := ⟨w2.heap.size, o, none⟩) (by first | omega | (simp; done) | (simp; omega))
    have hl3_1 : w2.heap.size < w3.heap.size := Nat.lt_of_lt_of_le (by first | omega | (simp; done) | (simp; omega)) hn.size
    (try simp only [World.size_drew, World.cell?_drew, World.frozen?_drew] at hc3_1 hf3_1)
    have hz3 := hn.size
    (try simp at hz3)
    clear hn
    have hq1 := tokNeq 0 0 0
    have hq2 := tokEql 0 0 0
    go_wp2
    go_ret
    exact ⟨rfl, by go_grown⟩
  | some u =>
    obtain ⟨x, y, z⟩ := u
    obtain ⟨hv, hv2, hN, hcs⟩ := ts_facts hst
    have hNH := Lib.hid hN
    have hVH := Lib.hid hv
    have hV2 := Lib.hid hv2
    have hC := Lib.hid hcs
    clear hN hv hv2 hcs
    have hS := Lib.hid hst
    clear hst
    go_wp2_with fail
    refine (iStep_yes a b o x y z s _ hS.out).mono ?_
    rintro e w2 ⟨rfl, hn⟩
    have hx1 := (Bx.new w1 [.int .i64 a, .int .i64 b, .int .i64 o] 27).call hn
    have hb2 : Below w.heap.size w w2 := bl (by go_grown) (Nat.le_refl _) hn
    have hl2 : w1.heap.size < w2.heap.size := hx1.lt
    clear hn
    obtain ⟨⟨p0, p1, p2⟩, _⟩ := hx1.three
    go_wp2_with fail
    refine (sTStep_yes a b o x y z s _ hS.out).mono ?_
    rintro e w3 ⟨rfl, hn⟩
    have hx1 := (hx1.alloc (.cells #[.int .i64 x, .int .i64 y, .int .i64 z] 27)).call hn
    have hx2 := (Bx.new w2 [.int .i64 x, .int .i64 y, .int .i64 z] 27).call hn
    have hb3 : Below w.heap.size w w3 := bl (by go_grown) (Nat.le_refl _) hn
    have hl3 : w2.heap.size < w3.heap.size := hx2.lt
    have hl13 : w1.heap.size < w3.heap.size := hx1.lt
    clear hn p0 p1 p2
    obtain ⟨⟨p0, p1, p2⟩, _⟩ := hx1.three
    obtain ⟨⟨q0, q1, q2⟩, _⟩ := hx2.three
    have hq1 := tokNeq x y z
    have hq2 := tokEql x y z
    have hq3 := tokGuard
    have hq4 := tokEq x y z
    go_wp2_with fail
    clear p0 p1 p2 q0 q1 q2
    have hx1 := hx1.alloc (.cells #[.int .i64 x, .int .i64 y, .int .i64 z] 27)
    have hx2 := hx2.alloc (.cells #[.int .i64 x, .int .i64 y, .int .i64 z] 27)
    have hb3 := hb3.alloc (by have := hb3.size; omega) (.cells #[.int .i64 x, .int .i64 y, .int .i64 z] 27)
    generalize w3.alloc (.cells #[.int .i64 x, .int .i64 y, .int .i64 z] 27) = W3 at *
    obtain ⟨⟨p0, p1, p2⟩, _⟩ := hx1.three
    obtain ⟨⟨q0, q1, q2⟩, _⟩ := hx2.three
    obtain ⟨v1, v2, v3, v4, v5, v6, _⟩ := tokV_iff.1 hV2.out
    obtain ⟨n, hnn⟩ : ∃ n, tokN a b o = n := ⟨_, rfl⟩
    have T1 := Lib.hid hnn
    have T2 := Lib.hid (hNH.out.trans hnn)
    have X1 := Lib.hid hx1
    have X2 := Lib.hid hx2
    have hg0 : w.heap.size ≤ W3.heap.size := hb3.size
    clear hx1 hx2 hnn
    rcases hC.out with ⟨ho, hz, hback⟩ | ⟨ho, hz, hs⟩
    · subst ho
      have BK := Lib.hid hback
      have d1 : decide (0 < z) = true := decide_eq_true hz
      clear hback
      go_region_held3 (fun V => V.cell? ⟨w1.heap.size, 0, none⟩ = some (.int .i64 a) ∧ V.cell? ⟨w1.heap.size, 1, none⟩ = some (.int .i64 b) ∧ V.cell? ⟨w1.heap.size, 2, none⟩ = some (.int .i64 0) ∧ V.cell? ⟨w2.heap.size, 0, none⟩ = some (.int .i64 x) ∧ V.cell? ⟨w2.heap.size, 1, none⟩ = some (.int .i64 y) ∧ V.cell? ⟨w2.heap.size, 2, none⟩ = some (.int .i64 z)) (go_keep)
        (first
          | (go_at_call 21; refine (iTokVv x y z true hV2.out _).mono ?_; rintro e u1 ⟨rfl, hn⟩; have hn := undrewT hn; obtain ⟨X1u, p3, p4, p5⟩ := three_call X1.out hn; obtain ⟨X2u, q3, q4, q5⟩ := three_call X2.out hn; have hbu := bl hb3 (Nat.le_refl _) hn; have Y1 := Lib.hid X1u; have Y2 := Lib.hid X2u; clear hn X1u X2u)
          | (go_at_call_of 22 (Value.agg #[Value.int .i64 x, Value.int .i64 y, Value.int .i64 z]); refine (tokOf_is x y z n _ ⟨by omega, by omega, by omega, by omega⟩ T2.out).mono ?_; rintro e u2 ⟨rfl, hn⟩; obtain ⟨X1u, p6, p7, p8⟩ := three_call Y1.out hn; obtain ⟨X2u, q6, q7, q8⟩ := three_call Y2.out hn; have hbv := bl hbu (Nat.le_refl _) hn; have Z1 := Lib.hid X1u; have Z2 := Lib.hid X2u; clear hn X1u X2u)
          | (go_at_call 22; refine (tokOf_is a b 0 n _ ⟨by omega, by omega, by omega, by omega⟩ T1.out).mono ?_; rintro e u3 ⟨rfl, hn⟩; obtain ⟨X1u, p9, p10, p11⟩ := three_call Z1.out hn; obtain ⟨X2u, q9, q10, q11⟩ := three_call Z2.out hn; have hbw := bl hbv (Nat.le_refl _) hn; have K1 := Lib.hid X1u; have K2 := Lib.hid X2u; clear hn X1u X2u))
      have hl4 : w1.heap.size < u3.heap.size := K1.out.lt
      have hl5 : w2.heap.size < u3.heap.size := K2.out.lt
      clear p0 p1 p2 p3 p4 p5 p6 p7 p8 q0 q1 q2 q3 q4 q5 q6 q7 q8 hq1 hq2 hq4
      go_wp2_with fail
      refine (iStep_yes x y z a b 0 ⟨#[113]⟩ _ BK.out).mono ?_
      rintro e u4 ⟨rfl, hn⟩
      obtain ⟨X1u, r0, r1, r2⟩ := three_call K1.out hn
      have hl6 := X1u.lt
      have hb4 := bl hbw (Nat.le_refl _) hn
      clear hn X1u
      have hq1 := tokNeq a b 0
      have hq2 := tokEql a b 0
      have hq4 := tokEq a b 0
      go_wp2
      go_ret
      exact ⟨rfl, by go_grown⟩
    · subst hz
      have d1 : decide (0 < o) = true := decide_eq_true ho
      go_region_held3 (fun V => V.cell? ⟨w1.heap.size, 0, none⟩ = some (.int .i64 a) ∧ V.cell? ⟨w1.heap.size, 1, none⟩ = some (.int .i64 b) ∧ V.cell? ⟨w1.heap.size, 2, none⟩ = some (.int .i64 o) ∧ V.cell? ⟨w2.heap.size, 0, none⟩ = some (.int .i64 x) ∧ V.cell? ⟨w2.heap.size, 1, none⟩ = some (.int .i64 y) ∧ V.cell? ⟨w2.heap.size, 2, none⟩ = some (.int .i64 0)) (go_keep)
        (first
          | (go_at_call 21; refine (iTokVv x y 0 true hV2.out _).mono ?_; rintro e u1 ⟨rfl, hn⟩; have hn := undrewT hn; obtain ⟨X1u, p3, p4, p5⟩ := three_call X1.out hn; obtain ⟨X2u, q3, q4, q5⟩ := three_call X2.out hn; have hbu := bl hb3 (Nat.le_refl _) hn; have Y1 := Lib.hid X1u; have Y2 := Lib.hid X2u; clear hn X1u X2u)
          | (go_at_call_of 22 (Value.agg #[Value.int .i64 x, Value.int .i64 y, Value.int .i64 0]); refine (tokOf_is x y 0 n _ ⟨by omega, by omega, by omega, by omega⟩ T2.out).mono ?_; rintro e u2 ⟨rfl, hn⟩; obtain ⟨X1u, p6, p7, p8⟩ := three_call Y1.out hn; obtain ⟨X2u, q6, q7, q8⟩ := three_call Y2.out hn; have hbv := bl hbu (Nat.le_refl _) hn; have Z1 := Lib.hid X1u; have Z2 := Lib.hid X2u; clear hn X1u X2u)
          | (go_at_call 22; refine (tokOf_is a b o n _ ⟨by omega, by omega, by omega, by omega⟩ T1.out).mono ?_; rintro e u3 ⟨rfl, hn⟩; obtain ⟨X1u, p9, p10, p11⟩ := three_call Z1.out hn; obtain ⟨X2u, q9, q10, q11⟩ := three_call Z2.out hn; have hbw := bl hbv (Nat.le_refl _) hn; have K1 := Lib.hid X1u; have K2 := Lib.hid X2u; clear hn X1u X2u))
      have hl4 : w1.heap.size < u3.heap.size := K1.out.lt
      clear p0 p1 p2 p3 p4 p5 p6 p7 p8 q0 q1 q2 q3 q4 q5 q6 q7 q8 hq1 hq2 hq4 hC
      rcases hs with rfl | rfl
      all_goals
        go_wp2
        go_ret
        exact ⟨rfl, by go_grown⟩
end Go.Proofs.Ytejggpejmooegaa
