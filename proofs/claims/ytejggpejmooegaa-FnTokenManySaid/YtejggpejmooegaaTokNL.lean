/-
  The walk of FnTokenMany.
-/
import Derived.Test.YtejggpejmooegaaTokMJ
import Derived.Test.YtejggpejmooegaaTokMY
import Derived.Test.YtejggpejmooegaaDrawM
import Derived.Deep.RegionHeld3
import Derived.Deep.DeepCutAuto
namespace Go.Proofs.Ytejggpejmooegaa
open Go.RowKit Go.Deep
set_option linter.unusedVariables false

theorem bx_next (w : World) (o : Obj) (l : List Value) (T : TypeId) : Bx ((w.alloc o).alloc (.cells l.toArray T)) (w.heap.size + 1) l := by
  have h := Bx.new (w.alloc o) l T
  rw [World.size_alloc] at h
  exact h
set_option maxHeartbeats 8000000 in
set_option maxRecDepth 200000 in
theorem w_FnTokenMany (a0 : Option Addr) (len0 cap0 : Nat) (z0 : List Int) (w : World) (w0 : IsRow .u8 w a0 len0 cap0 z0) :
    Calls Try.prog 11 #[.slice a0 len0 cap0] w fun e w' => e = .returned (.bool true) ∧ Below w.heap.size w w' := by
  obtain ⟨hA, hc, hm⟩ := w0.bytes
  have hAH := Lib.hid hA
  clear w0 hA
  by_cases hs0 : 1048576 < len0
  · have hd0 : decide ((1048576 : Int) < (len0 : Int)) = true := by simp; omega
    go_enter Try.func11, Try.ntmps11
    go_wp2
    go_ret
    exact ⟨rfl, Below.refl _ _⟩
  have hd0 : decide ((1048576 : Int) < (len0 : Int)) = false := by simp; omega
  go_enter Try.func11, Try.ntmps11
  go_wp2_with fail
  refine (d_DrawTokenMany a0 len0 cap0 w hAH.out (by omega) hc hm).mono ?_
  rintro e w1 ⟨a, b, o, n, rfl, hab, hn31, hb⟩
  clear hc hm hAH hs0 hd0
  have hz1 := hb.size
  have hT := Bx.new w1 [.int .i64 a, .int .i64 b, .int .i64 o] 27
  by_cases hok : okM a b o n
  rotate_left
  · have HV : Hid (ManyV a b o n (-1)) := .inr ⟨hok, rfl⟩
    clear hok
    go_wp2_with fail
    refine (iMany a b o n _ (-1) HV).mono ?_
    rintro e w2 ⟨rfl, hn⟩
    have hT := hT.call hn
    have hb2 : Below w.heap.size w w2 := bl (hb.alloc hb.size _) (Nat.le_refl _) hn
    have hl2 : w1.heap.size < w2.heap.size := hT.lt
    clear hn hb
    obtain ⟨⟨p0, p1, p2⟩, _⟩ := hT.three
    go_wp2_with fail
    refine (sMany a b o n _ (-1) HV).mono ?_
    rintro e w3 ⟨rfl, hn⟩
    have hb3 : Below w.heap.size w w3 := bl hb2 (Nat.le_refl _) hn
    clear hn hb2 hT p0 p1 p2
    go_wp2
    go_ret
    exact ⟨rfl, hb3⟩
  · obtain ⟨hv, hn0, hn30⟩ := hok
    obtain ⟨N, rfl⟩ := Int.eq_ofNat_of_zero_le hn0
    obtain ⟨A, hA⟩ : ∃ A, many N (a, b, o) = A := ⟨_, rfl⟩
    have hA2 : A ≤ 1073741824 := by rw [← hA]; exact Nat.le_trans (many_le N _ hv) (pow30 (by omega))
    have HA := Lib.hid hA
    have HV := Lib.hid hv
    have MV : Hid (ManyV a b o N (A : Int)) := .inl ⟨⟨hv, hn0, hn30⟩, by rw [Int.toNat_natCast, hA]⟩
    have ho := vk_out (s := (a, b, o)) hv
    have eq1 : ((A : Int) == (A : Int)) = true := beq_iff_eq.2 rfl
    have dA : decide ((A : Int) < 0) = false := decide_eq_false (by omega)
    clear hA hv
    go_wp2_with fail
    refine (iMany a b o N _ A MV).mono ?_
    rintro e w2 ⟨rfl, hn⟩
    have hT := hT.call hn
    have hb2 : Below w.heap.size w w2 := bl (hb.alloc hb.size _) (Nat.le_refl _) hn
    have hl2 : w1.heap.size < w2.heap.size := hT.lt
    clear hn hb
    obtain ⟨⟨p0, p1, p2⟩, _⟩ := hT.three
    go_wp2_with fail
    refine (sMany a b o N _ A MV).mono ?_
    rintro e w3 ⟨rfl, hn⟩
    have hT := hT.call hn
    have hb3 : Below w.heap.size w w3 := bl hb2 (Nat.le_refl _) hn
    have hl3 : w1.heap.size < w3.heap.size := hT.lt
    clear hn hb2 p0 p1 p2 MV
    obtain ⟨⟨p0, p1, p2⟩, _⟩ := hT.three
    have KT := Lib.hid hT
    have KB := Lib.hid hb3
    clear hT hb3
    go_upto_region 8 with fail
    go_cut [7] from 37 to 46 (fun s7 wc => ∃ Y : Nat, s7 = .pointer (some ⟨Y, 0, none⟩) ∧ Hid (Bx wc Y [.int .i64 b, .int .i64 a, .int .i64 (outT o)]) ∧ Hid (Bx wc w1.heap.size [.int .i64 a, .int .i64 b, .int .i64 o]) ∧ Hid (Below w.heap.size w wc))
    case first =>
      rcases ho with ho | ho | ho
      all_goals
        try simp only at ho
        subst ho
        go_region
        · (try go_wp2_with fail)
          go_meet
          exact ⟨w3.heap.size + 1, rfl, bx_next _ _ _ _, (KT.out.alloc _).alloc _, below_drewM ((KB.out.alloc KB.out.size _).alloc (by simp; omega) _)⟩
        · (try go_wp2_with fail)
          go_meet
          exact ⟨w3.heap.size, rfl, (Bx.new _ _ _).alloc _, (KT.out.alloc _).alloc _, below_drewM ((KB.out.alloc KB.out.size _).alloc (by simp; omega) _)⟩
    case rest =>
      obtain ⟨Y, rfl, BY, BT, BB⟩ := hcut
      rename World => wc
      clear KT KB p0 p1 p2 hab ho
      obtain ⟨⟨p0, p1, p2⟩, _⟩ := BT.out.three
      obtain ⟨⟨y0, y1, y2⟩, _⟩ := BY.out.three
      by_cases hN : N = 0
      · have d0 : ((N : Int) == 0) = true := beq_iff_eq.2 (by omega)
        have d1 : ((A : Int) == 1) = true := by
          have h := HA.out
          rw [hN] at h
          have : 1 = A := h
          exact beq_iff_eq.2 (by omega)
        clear hN
        go_wp2
        go_ret
        exact ⟨rfl, BB.out⟩
      · have d0 : ((N : Int) == 0) = false := beq_eq_false_iff_ne.2 (by omega)
        obtain ⟨M, hM⟩ : ∃ M, N = M + 1 := ⟨N - 1, by omega⟩
        have hw0 : IntKind.i64.wrap ((N : Int) - 1) = (M : Int) := by rw [IntWalk.i64_in _ (by omega)]; omega
        have hM30 : M ≤ 30 := by omega
        have HS0 : Hid (0 + sumO (many M) (a, b, o) (lets.drop 0) = A) := by
          have h := HA.out
          rw [hM] at h
          rw [Nat.zero_add]
          exact h
        have hMa : N ≤ M + 1 := by omega
        have hMb : M + 1 ≤ N := by omega
        clear hN hM
        go_wp2
        go_loopw [8, 10] (fun sm i wx => ∃ S i4 : Nat, i4 ≤ 4 ∧ sm = .int .i64 S ∧ i = .int .i64 i4 ∧ Hid (Bx wx Y [.int .i64 b, .int .i64 a, .int .i64 (outT o)]) ∧ Hid (Bx wx w1.heap.size [.int .i64 a, .int .i64 b, .int .i64 o]) ∧ Hid (Below w.heap.size w wx) ∧ Hid (S + sumO (many M) (a, b, o) (lets.drop i4) = A)) (fun _ i _ => 4 - (intOf i).toNat)
        case atStart => exact ⟨0, 0, by omega, rfl, rfl, BY.out, BT.out, BB.out, HS0.out⟩
        case round =>
          clear BY BT BB HS0 p0 p1 p2 y0 y1 y2
          obtain ⟨S, i4, hi4, rfl, rfl, BY, BT, BB, HS⟩ := hrel
          rename World => wx
          by_cases hlt : i4 < 4
          · obtain ⟨x1, x2, x3, can, hcall, hst⟩ := tkStep a b o HV.out i4 hlt
            have HC := Lib.hid hcall
            have ST := Lib.hid hst
            obtain ⟨⟨p0, p1, p2⟩, pf0, pf1, pf2⟩ := BT.out.three
            have hlb := BT.out.lt
            have hbs := BB.out.size
            have k0 : (0 : Int) ≤ (i4 : Int) := by omega
            have k1 : (i4 : Int) < 4 := by omega
            have k2 : (i4 : Int) + 1 ≤ 4 := by omega
            have k3 : (0 : Int) ≤ (i4 : Int) + 1 := by omega
            have k4 : (i4 : Int) ≤ (i4 : Int) + 1 := by omega
            have hw1 : IntKind.i64.wrap ((i4 : Int) + 1) = (i4 : Int) + 1 := IntWalk.i64_in _ (by omega)
            have hw2 : ((i4 : Int) + 1).toNat = i4 + 1 := by omega
            have hlY := BY.out.lt
            have hne1 : w1.heap.size ≠ wx.heap.size := by omega
            have hne2 : wx.heap.size ≠ w1.heap.size := by omega
            clear hcall hst
            go_upto_region 16 with fail
            go_cut [11, 12] from 55 to 64 (fun s11 s12 wc => ∃ bh : Nat, s11 = .pointer (some ⟨bh, 0, none⟩) ∧ s12 = .bool can ∧ Hid (Bx wc bh [.int .i64 x1, .int .i64 x2, .int .i64 x3]) ∧ Hid (Bx wc Y [.int .i64 b, .int .i64 a, .int .i64 (outT o)]) ∧ Hid (Bx wc w1.heap.size [.int .i64 a, .int .i64 b, .int .i64 o]) ∧ Hid (Below w.heap.size w wc))
            case first =>
              go_region_held3 (fun V => V.cell? ⟨w1.heap.size, 0, none⟩ = some (.int .i64 a) ∧ V.cell? ⟨w1.heap.size, 1, none⟩ = some (.int .i64 b) ∧ V.cell? ⟨w1.heap.size, 2, none⟩ = some (.int .i64 o)) (go_keep)
                (first
                  | (go_at_call 19; refine (HC.out _).mono ?_; rintro e u1 ⟨rfl, hn⟩; have hn := undrewM hn; obtain ⟨p3, p4, p5⟩ := (BT.out.call hn).three.1; have T1 := Lib.hid (BT.out.call hn); have Y1 := Lib.hid (BY.out.call hn); have B1 := Lib.hid (bl BB.out (Nat.le_refl _) hn); clear hn)
                  | (go_at_call 19; refine (HC.out _).mono ?_; rintro e u1 ⟨rfl, hn⟩; have hn := undrewM hn; obtain ⟨p3, p4, p5⟩ := ((BT.out.alloc _).call hn).three.1; have T1 := Lib.hid ((BT.out.alloc _).call hn); have Y1 := Lib.hid ((BY.out.alloc _).call hn); have B1 := Lib.hid (bl (BB.out.alloc hbs _) (Nat.le_refl _) hn); have hNw := (Bx.new wx _ _).call hn; have hlN := hNw.lt; obtain ⟨⟨n0, n1, n2⟩, m0, m1, m2⟩ := hNw.three; have N2 := Lib.hid hNw; clear hn hNw))
              · go_wp2_with fail
                go_meet
                exact ⟨u1.heap.size, rfl, rfl, Bx.new _ _ _, Y1.out.alloc _, T1.out.alloc _, B1.out.alloc B1.out.size _⟩
              · go_wp2_with fail
                go_meet
                exact ⟨wx.heap.size, rfl, rfl, N2.out.set3, Y1.out.other3 (by omega) _ _ _, T1.out.other3 hne1 _ _ _, bl_set3m B1.out hbs _ _ _⟩
            case rest =>
              obtain ⟨bh, rfl, rfl, BX, BY, BT, BB⟩ := hcut
              rename World => wd
              clear p0 p1 p2 pf0 pf1 pf2 hne1 hne2 HC hw2 hlb hbs hlY
              cases can
              · have hno : stp (a, b, o) lets[i4] = none := by
                  rcases ST.out with ⟨h, _⟩ | ⟨_, h⟩
                  · cases h
                  · exact h
                have HS2 : Hid (S + sumO (many M) (a, b, o) (lets.drop (i4 + 1)) = A) := by
                  have h := HS.out
                  rw [lets_drop hlt, sumO_none hno] at h
                  exact h
                clear hno ST HS
                go_wp2
                go_roundw
                case rel => exact ⟨S, i4 + 1, by omega, rfl, by go_num, BY.out, BT.out, BB.out, HS2.out⟩
                case measure => simp [intOf]; omega
              · have hyes : stp (a, b, o) lets[i4] = some (x1, x2, x3) := by
                  rcases ST.out with ⟨_, h⟩ | ⟨h, _⟩
                  · exact h
                  · cases h
                have VX := Lib.hid (stp_vk (s := (a, b, o)) HV.out hyes)
                obtain ⟨y, hy⟩ : ∃ y, many M (x1, x2, x3) = y := ⟨_, rfl⟩
                have HY := Lib.hid hy
                have h := HS.out
                rw [lets_drop hlt, sumO_some hyes, hy, ← Nat.add_assoc] at h
                have hyA : S + y ≤ A := by omega
                have HS2 := Lib.hid h
                have hwz : IntKind.i64.wrap ((S : Int) + (y : Int)) = (S : Int) + (y : Int) := IntWalk.i64_in _ (by omega)
                obtain ⟨⟨q0, q1, q2⟩, _⟩ := BX.out.three
                clear hyes ST HS h hy
                go_wp2_with fail
                refine (iManyV x1 x2 x3 M y _ VX.out (by omega) HY).mono ?_
                rintro e w5 ⟨rfl, hn⟩
                have BY5 := Lib.hid (BY.out.call hn)
                have BT5 := Lib.hid (BT.out.call hn)
                have BB5 := Lib.hid (bl BB.out (Nat.le_refl _) hn)
                clear hn q0 q1 q2 BX BY BT BB
                go_wp2
                go_roundw
                case rel => exact ⟨S + y, i4 + 1, by omega, by go_num, by go_num, BY5.out, BT5.out, BB5.out, HS2.out⟩
                case measure => simp [intOf]; omega
          · obtain rfl : i4 = 4 := by omega
            have hS : S = A := by
              have h := HS.out
              rw [show lets.drop 4 = [] from rfl] at h
              exact h
            subst hS
            have HTn := Lib.hid (many_turned N HV.out)
            have HVt := Lib.hid (tokV_turned HV.out)
            have HAt : Hid (many N (b, a, outT o) = S) := by rw [HTn.out]; exact HA.out
            obtain ⟨⟨y0, y1, y2⟩, _⟩ := BY.out.three
            clear HS HTn
            obtain ⟨ot, hot⟩ : ∃ ot, outT o = ot := ⟨_, rfl⟩
            rw [hot] at y2 HVt HAt
            clear hot BY BT
            go_wp2_with fail
            refine (iManyV b a ot N S _ HVt.out (by omega) HAt).mono ?_
            rintro e w5 ⟨rfl, hn⟩
            have hb5 := Lib.hid (bl BB.out (Nat.le_refl _) hn)
            clear hn
            go_wp2
            go_ret
            exact ⟨rfl, hb5.out⟩
end Go.Proofs.Ytejggpejmooegaa
