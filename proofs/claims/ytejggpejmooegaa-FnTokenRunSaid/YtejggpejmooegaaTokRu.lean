/-
  The walk of FnTokenRun.
-/
import Derived.Test.YtejggpejmooegaaTokRuP
import Derived.Test.YtejggpejmooegaaTokR
import Derived.Test.YtejggpejmooegaaTokTR
import Derived.Test.YtejggpejmooegaaTokTS
import Derived.Test.YtejggpejmooegaaDraw8
import Derived.Deep.RegionHeld3
import Derived.Laws.StructEq
import Derived.Deep.DeepCutAuto
namespace Go.Proofs.Ytejggpejmooegaa
open Go.RowKit
set_option linter.unusedVariables false

/-- What the first half leaves. -/
def RunCut (w : World) (T O : Nat) (a b o x y z g f t : Int) (s12 s13 : Value) (wx : World) : Prop :=
  ∃ G, s12 = .pointer (some ⟨G, 0, none⟩) ∧ s13 = .bool true ∧ Bx wx G [.int .i64 g, .int .i64 f, .int .i64 t] ∧ Bx wx T [.int .i64 a, .int .i64 b, .int .i64 o] ∧ Bx wx O [.int .i64 x, .int .i64 y, .int .i64 z] ∧ Below w.heap.size w wx
theorem cOf_is (s : ByteArray) (c : UInt8) (d : Int) (n : Nat) (w : World) (hs : s.size ≤ 1048576) (hcd : (c.toNat : Int) = d) (hn : s.data.toList.count c = n) :
    Calls Try.prog 39 #[.string s, .int .u8 d] w fun e w' => e = .returned (.int .i64 (n : Int)) ∧ w = w' := by rw [← hn]; exact cOf s c d w hs hcd
theorem sRun_yes (a b o x y z : Int) (s : ByteArray) (w : World) (hs : s.size ≤ 1048576) (h : runS a b o s.data.toList = some (x, y, z)) :
    Calls Try.prog 38 #[.agg #[.int .i64 a, .int .i64 b, .int .i64 o], .string s] w fun e w' => e = .returned (.tuple #[.agg #[.int .i64 x, .int .i64 y, .int .i64 z], .bool true]) ∧ Below w.heap.size w w' :=
  (sTokRun a b o s w hs).mono fun _ _ ⟨he, hw⟩ => ⟨by rw [he, h]; rfl, hw⟩
theorem sRun_no (a b o : Int) (s : ByteArray) (w : World) (hs : s.size ≤ 1048576) (h : runS a b o s.data.toList = none) :
    Calls Try.prog 38 #[.agg #[.int .i64 a, .int .i64 b, .int .i64 o], .string s] w fun e w' => e = .returned (.tuple #[.agg #[.int .i64 0, .int .i64 0, .int .i64 0], .bool false]) ∧ Below w.heap.size w w' :=
  (sTokRun a b o s w hs).mono fun _ _ ⟨he, hw⟩ => ⟨by rw [he, h]; rfl, hw⟩
set_option maxHeartbeats 4000000 in
set_option maxRecDepth 200000 in
theorem w_FnTokenRun (a0 : Option Addr) (len0 cap0 : Nat) (z0 : List Int) (a1 : Option Addr) (len1 cap1 : Nat) (z1 : List Int) (w : World) (w0 : IsRow .u8 w a0 len0 cap0 z0) (w1 : IsRow .u8 w a1 len1 cap1 z1) :
    Calls Try.prog 9 #[.slice a0 len0 cap0, .slice a1 len1 cap1] w fun e w' => e = .returned (.bool true) ∧ Below w.heap.size w w' := by
  obtain ⟨hA, hc, hm⟩ := w0.bytes
  have hAH := Lib.hid hA
  clear w0 w1 hA
  by_cases hs0 : 1048576 < len0
  · have hd0 : decide ((1048576 : Int) < (len0 : Int)) = true := by simp; omega
    go_enter Try.func9, Try.ntmps9
    go_wp2
    go_ret
    exact ⟨rfl, Below.refl _ _⟩
  have hd0 : decide ((1048576 : Int) < (len0 : Int)) = false := by simp; omega
  by_cases hs1 : 1048576 < len1
  · have hd1 : decide ((1048576 : Int) < (len1 : Int)) = true := by simp; omega
    go_enter Try.func9, Try.ntmps9
    go_wp2
    go_ret
    exact ⟨rfl, Below.refl _ _⟩
  have hd1 : decide ((1048576 : Int) < (len1 : Int)) = false := by simp; omega
  go_enter Try.func9, Try.ntmps9
  go_wp2_with fail
  refine (d_DrawTokenRun a0 len0 cap0 w hAH.out (by omega) hc hm).mono ?_
  rintro e w1 ⟨a, b, o, s, rfl, hab, hsz, hb⟩
  clear hc hm hAH hs0 hd0 hs1 hd1
  have hz1 := hb.size
  have hT := Bx.new w1 [.int .i64 a, .int .i64 b, .int .i64 o] 27
  cases hst : runS a b o s.data.toList with
  | none =>
    have R := Lib.hid hst
    clear hst
    go_wp2_with fail
    refine (iRun_no a b o s _ (by omega) R.out).mono ?_
    rintro e w2 ⟨rfl, hn⟩
    obtain ⟨hT, c0, c1, c2⟩ := three_call hT hn
    have hlT := hT.lt
    have hO := Bx.new w2 [.int .i64 0, .int .i64 0, .int .i64 0] 27
    have hb := bl (hb.alloc hb.size _) (Nat.le_refl _) hn
    have hz2 := hb.size
    clear hn
    go_wp2_with fail
    refine (sRun_no a b o s _ (by omega) R.out).mono ?_
    rintro e w3 ⟨rfl, hn⟩
    obtain ⟨hO, c3, c4, c5⟩ := three_call hO hn
    have hlO := hO.lt
    have hb := bl (hb.alloc hb.size _) (Nat.le_refl _) hn
    have hz3 := hb.size
    clear hn hT
    have hq1 := tokNeq 0 0 0
    have hq2 := tokEql 0 0 0
    go_wp2
    go_ret
    exact ⟨rfl, hb.alloc hb.size _⟩
  | some u =>
    obtain ⟨x, y, z⟩ := u
    obtain ⟨hv, hv2, hs30, hN, hcnt, hcut⟩ := run_facts hst
    obtain ⟨k, hk, hk', hkle⟩ := mod_at len1 s.size
    obtain ⟨g, f, t, hc1, hc2⟩ := hcut k hkle
    have N0 := Lib.hid hN
    have V1 := Lib.hid hv
    have V2 := Lib.hid hv2
    have CN := Lib.hid hcnt
    have C1 := Lib.hid hc1
    have C2 := Lib.hid hc2
    have R := Lib.hid hst
    clear hst hv hv2 hN hcnt hcut hc1 hc2 hab
    go_wp2_with fail
    refine (iRun_yes a b o x y z s _ (by omega) R.out).mono ?_
    rintro e w2 ⟨rfl, hn⟩
    have hT := (hT.call hn)
    have hb2 : Below w.heap.size w w2 := bl (hb.alloc hb.size _) (Nat.le_refl _) hn
    have hl2 : w1.heap.size < w2.heap.size := hT.lt
    clear hn hb
    obtain ⟨⟨p0, p1, p2⟩, _⟩ := hT.three
    go_wp2_with fail
    refine (sRun_yes a b o x y z s _ (by omega) R.out).mono ?_
    rintro e w3 ⟨rfl, hn⟩
    have hT := (hT.alloc (.cells #[.int .i64 x, .int .i64 y, .int .i64 z] 27)).call hn
    have hO := (Bx.new w2 [.int .i64 x, .int .i64 y, .int .i64 z] 27).call hn
    have hb3 : Below w.heap.size w w3 := bl (hb2.alloc hb2.size _) (Nat.le_refl _) hn
    have hl3 : w2.heap.size < w3.heap.size := hO.lt
    have hl13 : w1.heap.size < w3.heap.size := hT.lt
    clear hn p0 p1 p2 hb2
    obtain ⟨⟨p0, p1, p2⟩, _⟩ := hT.three
    obtain ⟨⟨q0, q1, q2⟩, _⟩ := hO.three
    have hq1 := tokNeq x y z
    have hq2 := tokEql x y z
    have hq3 := tokGuard
    have hq4 := tokEq x y z
    have hk1 : (k : Int) ≤ (s.size : Int) := by omega
    have hk0 : (0 : Int) ≤ (k : Int) := by omega
    go_wp2_with fail
    clear p0 p1 p2 q0 q1 q2
    have hT := hT.alloc (.cells #[.int .i64 x, .int .i64 y, .int .i64 z] 27)
    have hO := hO.alloc (.cells #[.int .i64 x, .int .i64 y, .int .i64 z] 27)
    have hb3 := hb3.alloc hb3.size (.cells #[.int .i64 x, .int .i64 y, .int .i64 z] 27)
    generalize w3.alloc (.cells #[.int .i64 x, .int .i64 y, .int .i64 z] 27) = W3 at *
    obtain ⟨⟨p0, p1, p2⟩, _⟩ := hT.three
    have hl4 : w1.heap.size < W3.heap.size := hT.lt
    have hl5 : w2.heap.size < W3.heap.size := hO.lt
    have T1 := Lib.hid hT
    have O1 := Lib.hid hO
    clear hT hO
    clear p0 p1 p2
    go_cut [12, 13] from 69 to 76 (fun s12 s13 wx => RunCut w w1.heap.size w2.heap.size a b o x y z g f t s12 s13 wx)
    case first =>
      obtain ⟨⟨p0, p1, p2⟩, _⟩ := T1.out.three
      have hne1 : w1.heap.size ≠ W3.heap.size := by omega
      have hne2 : W3.heap.size ≠ w1.heap.size := by omega
      go_region_held3 (fun V => V.cell? ⟨w1.heap.size, 0, none⟩ = some (.int .i64 a) ∧ V.cell? ⟨w1.heap.size, 1, none⟩ = some (.int .i64 b) ∧ V.cell? ⟨w1.heap.size, 2, none⟩ = some (.int .i64 o)) (go_keep)
        (first
          | (go_at_call 37; refine (iRun_yes a b o g f t (s.extract 0 k) _ (by rw [ByteArray.size_extract]; omega) C1.out).mono ?_; rintro e u1 ⟨rfl, hn⟩; have hn := undrewT hn; obtain ⟨X1u, p3, p4, p5⟩ := three_call T1.out hn; have O2 := Lib.hid (O1.out.call hn); have hbu := bl hb3 (Nat.le_refl _) hn; have T2 := Lib.hid X1u; clear hn X1u)
          | (go_at_call 37; refine (iRun_yes a b o g f t (s.extract 0 k) _ (by rw [ByteArray.size_extract]; omega) C1.out).mono ?_; rintro e u1 ⟨rfl, hn⟩; have hn := undrewT hn; obtain ⟨X1u, p3, p4, p5⟩ := three_call (T1.out.alloc _) hn; have O2 := Lib.hid ((O1.out.alloc _).call hn); have hbu := bl (hb3.alloc hb3.size _) (Nat.le_refl _) hn; have hN := (Bx.new W3 _ _).call hn; have hlN := hN.lt; obtain ⟨⟨n0, n1, n2⟩, m0, m1, m2⟩ := hN.three; have N2 := Lib.hid hN; have T2 := Lib.hid X1u; clear hn X1u hN))
      · go_wp2_with fail
        go_meet
        exact ⟨u1.heap.size, rfl, rfl, Bx.new _ _ _, T2.out.alloc _, O2.out.alloc _, hbu.alloc hbu.size _⟩
      · go_wp2_with fail
        go_meet
        exact ⟨W3.heap.size, rfl, rfl, N2.out.set3, T2.out.other3 (by omega) _ _ _, O2.out.other3 (by omega) _ _ _, by have := hb3.size; go_grown⟩
    case rest =>
      clear T1 O1 hb3 hl4 hl5
      obtain ⟨G, rfl, rfl, hG, hT, hO, hb⟩ := hcut
      have hl6 := hT.lt
      have hl7 := hO.lt
      have hl8 := hG.lt
      have T2 := Lib.hid hT
      have O2 := Lib.hid hO
      have G2 := Lib.hid hG
      clear hT hO hG
      go_wp2_with fail
      go_cut [14, 15] from 77 to 84 (fun s14 s15 wx => RunCut w w1.heap.size w2.heap.size a b o x y z x y z s14 s15 wx)
      case first =>
        obtain ⟨⟨p0, p1, p2⟩, _⟩ := G2.out.three
        have hne1 : G ≠ wc.heap.size := by omega
        have hne2 : wc.heap.size ≠ G := by omega
        go_region_held3 (fun V => V.cell? ⟨G, 0, none⟩ = some (.int .i64 g) ∧ V.cell? ⟨G, 1, none⟩ = some (.int .i64 f) ∧ V.cell? ⟨G, 2, none⟩ = some (.int .i64 t)) (go_keep)
          (first
            | (go_at_call 37; refine (iRun_yes g f t x y z (s.extract k s.size) _ (by rw [ByteArray.size_extract]; omega) C2.out).mono ?_; rintro e u1 ⟨rfl, hn⟩; have hn := undrewT hn; obtain ⟨X1u, p3, p4, p5⟩ := three_call G2.out hn; have O3 := Lib.hid (O2.out.call hn); have T3 := Lib.hid (T2.out.call hn); have hbu := bl hb (Nat.le_refl _) hn; clear hn X1u)
            | (go_at_call 37; refine (iRun_yes g f t x y z (s.extract k s.size) _ (by rw [ByteArray.size_extract]; omega) C2.out).mono ?_; rintro e u1 ⟨rfl, hn⟩; have hn := undrewT hn; obtain ⟨X1u, p3, p4, p5⟩ := three_call (G2.out.alloc _) hn; have O3 := Lib.hid ((O2.out.alloc _).call hn); have T3 := Lib.hid ((T2.out.alloc _).call hn); have hbu := bl (hb.alloc hb.size _) (Nat.le_refl _) hn; have hN := (Bx.new wc _ _).call hn; have hlN := hN.lt; obtain ⟨⟨n0, n1, n2⟩, m0, m1, m2⟩ := hN.three; have N3 := Lib.hid hN; clear hn X1u hN))
        · go_wp2_with fail
          go_meet
          exact ⟨u1.heap.size, rfl, rfl, Bx.new _ _ _, T3.out.alloc _, O3.out.alloc _, hbu.alloc hbu.size _⟩
        · go_wp2_with fail
          go_meet
          exact ⟨wc.heap.size, rfl, rfl, N3.out.set3, T3.out.other3 (by omega) _ _ _, O3.out.other3 (by omega) _ _ _, by have := hb.size; go_grown⟩
      case rest =>
        clear T2 O2 G2 hb hl6 hl7 hl8
        obtain ⟨Y, rfl, rfl, hY, hT, hO, hb⟩ := hcut
        obtain ⟨na, ea⟩ : ∃ n, s.data.toList.count 97 = n := ⟨_, rfl⟩
        obtain ⟨nb, eb⟩ : ∃ n, s.data.toList.count 98 = n := ⟨_, rfl⟩
        obtain ⟨np, ep⟩ : ∃ n, s.data.toList.count 112 = n := ⟨_, rfl⟩
        obtain ⟨nq, eq⟩ : ∃ n, s.data.toList.count 113 = n := ⟨_, rfl⟩
        have hcn := CN.out
        rw [ea, eb, ep, eq] at hcn
        have ca : na ≤ 40 := by rw [← ea]; exact Nat.le_trans List.count_le_length (by simpa using hsz)
        have cb : nb ≤ 40 := by rw [← eb]; exact Nat.le_trans List.count_le_length (by simpa using hsz)
        have cp : np ≤ 40 := by rw [← ep]; exact Nat.le_trans List.count_le_length (by simpa using hsz)
        have cq : nq ≤ 40 := by rw [← eq]; exact Nat.le_trans List.count_le_length (by simpa using hsz)
        have EA := Lib.hid ea
        have EB := Lib.hid eb
        have EP := Lib.hid ep
        have EQ := Lib.hid eq
        have CN2 := Lib.hid hcn
        clear ea eb ep eq hcn CN
        go_wp2_with fail
        refine (cOf_is s 97 97 na _ (by omega) rfl EA.out).mono ?_
        rintro e u1 ⟨rfl, rfl⟩
        go_wp2_with fail
        refine (cOf_is s 98 98 nb _ (by omega) rfl EB.out).mono ?_
        rintro e u1 ⟨rfl, rfl⟩
        go_wp2_with fail
        refine (cOf_is s 112 112 np _ (by omega) rfl EP.out).mono ?_
        rintro e u1 ⟨rfl, rfl⟩
        go_wp2_with fail
        refine (cOf_is s 113 113 nq _ (by omega) rfl EQ.out).mono ?_
        rintro e u1 ⟨rfl, rfl⟩
        obtain ⟨⟨p0, p1, p2⟩, _⟩ := hT.three
        obtain ⟨⟨q0, q1, q2⟩, _⟩ := hO.three
        obtain ⟨⟨r0, r1, r2⟩, _⟩ := hY.three
        obtain ⟨v1, v2, v3, v4, v5, v6, _⟩ := tokV_iff.1 V1.out
        obtain ⟨v11, v12, v13, v14, v15, v16, _⟩ := tokV_iff.1 V2.out
        obtain ⟨n, hnn⟩ : ∃ n, tokN a b o = n := ⟨_, rfl⟩
        have M1 := Lib.hid hnn
        have M2 := Lib.hid (N0.out.trans hnn)
        have T3 := Lib.hid hT
        have O3 := Lib.hid hO
        have Y3 := Lib.hid hY
        clear hT hO hY hnn
        go_wp2_with fail
        go_region_held3 (fun V => V.cell? ⟨w1.heap.size, 0, none⟩ = some (.int .i64 a) ∧ V.cell? ⟨w1.heap.size, 1, none⟩ = some (.int .i64 b) ∧ V.cell? ⟨w1.heap.size, 2, none⟩ = some (.int .i64 o) ∧ V.cell? ⟨w2.heap.size, 0, none⟩ = some (.int .i64 x) ∧ V.cell? ⟨w2.heap.size, 1, none⟩ = some (.int .i64 y) ∧ V.cell? ⟨w2.heap.size, 2, none⟩ = some (.int .i64 z) ∧ V.cell? ⟨Y, 0, none⟩ = some (.int .i64 x) ∧ V.cell? ⟨Y, 1, none⟩ = some (.int .i64 y) ∧ V.cell? ⟨Y, 2, none⟩ = some (.int .i64 z)) (go_keep)
          (first
            | (go_at_call_of 22 (Value.agg #[Value.int .i64 x, Value.int .i64 y, Value.int .i64 z]); refine (tokOf_is x y z n _ ⟨by omega, by omega, by omega, by omega⟩ M2.out).mono ?_; rintro e u2 ⟨rfl, hn⟩; have hn := undrewT hn; obtain ⟨X1u, p6, p7, p8⟩ := three_call T3.out hn; obtain ⟨X2u, q6, q7, q8⟩ := three_call O3.out hn; obtain ⟨X3u, r6, r7, r8⟩ := three_call Y3.out hn; have hbv := bl hb (Nat.le_refl _) hn; have Z1 := Lib.hid X1u; have Z2 := Lib.hid X2u; have Z3 := Lib.hid X3u; clear hn X1u X2u X3u)
            | (go_at_call 22; refine (tokOf_is a b o n _ ⟨by omega, by omega, by omega, by omega⟩ M1.out).mono ?_; rintro e u3 ⟨rfl, hn⟩; obtain ⟨X1u, p9, p10, p11⟩ := three_call Z1.out hn; obtain ⟨X2u, q9, q10, q11⟩ := three_call Z2.out hn; obtain ⟨X3u, r9, r10, r11⟩ := three_call Z3.out hn; have hbw := bl hbv (Nat.le_refl _) hn; have K1 := Lib.hid X1u; have K2 := Lib.hid X2u; clear hn X1u X2u X3u))
        all_goals
          go_wp2_with fail
          go_ret
          exact ⟨by simp [CN2.out], hbw⟩
end Go.Proofs.Ytejggpejmooegaa
