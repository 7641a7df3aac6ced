/-
  The walk of FnAddPath.
-/
import Derived.Test.YtjppkcfbhhjniaaLawFi
import Derived.Test.YtjppkcfbhhjniaaPathAq
namespace Go.Proofs.Ytjppkcfbhhjniaa
open Go.RowKit Go.Deep
set_option linter.unusedVariables false
set_option maxHeartbeats 2000000 in
theorem samePathsI (A E : Option Addr) (n c d : Nat) (D : Nat → PD) (w : World) (h : PsRn w w.heap.size A n D) (h2 : PsRn w w.heap.size E n D) (hn : n ≤ 1048576) (hD : ∀ i, i < n → (D i).m1 ≤ 1048576 ∧ (D i).m2 ≤ 1048576) :
    Calls Try.prog 26 #[.slice A n c, .slice E n d] w fun e w' => e = .returned (.bool true) ∧ Below w.heap.size w w' := by
  have HD := Lib.hid hD
  have hd : ((n : Int) != (n : Int)) = false := eq_lit rfl
  clear hD
  go_enter Try.func26, Try.ntmps26
  go_wp2
  go_loopw [5] (fun i wr => ∃ k : Nat, k ≤ n ∧ i = .int .i64 k ∧ PsRn wr w.heap.size A n D ∧ PsRn wr w.heap.size E n D ∧ Below w.heap.size w wr) (fun i _ => n - (intOf i).toNat)
  case atStart => exact ⟨0, Nat.zero_le _, rfl, h, h2, Below.refl _ _⟩
  case round =>
    clear h h2
    obtain ⟨k, hk, rfl, hp, hq, hb⟩ := hrel
    have hsz := hb.size
    by_cases hlt : k < n
    · obtain ⟨b, off, a1, c1, a2, c2, m1, f1, m2, f2, rfl, hbB, hd, x0, x1, r1, r2⟩ := hp.at_ hlt
      obtain ⟨b', off', a1', c1', a2', c2', m1', f1', m2', f2', rfl, hbB', hd', y0, y1, r1', r2'⟩ := hq.at_ hlt
      rw [hd] at hd'
      injection hd' with e1 e2 e3 e4
      subst e1 e2 e3 e4
      have hd2 := HD.out k hlt
      rw [hd] at hd2
      have hm1 : m1 ≤ 1048576 := hd2.1
      have hm2 : m2 ≤ 1048576 := hd2.2
      have hk0 : (0 : Int) ≤ (k : Int) := by omega
      have hk1 : (k : Int) < (n : Int) := by omega
      have R1 := Lib.hid (r1.up hsz)
      have R2 := Lib.hid (r2.up hsz)
      have R3 := Lib.hid (r1'.up hsz)
      have R4 := Lib.hid (r2'.up hsz)
      clear hd hd2 r1 r2 r1' r2'
      go_wp2_with fail
      go_region_held3 (fun V => V.cell? ⟨b, off + k * 2, none⟩ = some (.slice a1 m1 c1) ∧ V.cell? ⟨b, off + k * 2 + 1, none⟩ = some (.slice a2 m2 c2) ∧ V.cell? ⟨b', off' + k * 2, none⟩ = some (.slice a1' m1 c1') ∧ V.cell? ⟨b', off' + k * 2 + 1, none⟩ = some (.slice a2' m2 c2')) (go_keep)
        (first | (go_at_call 31; refine (samePath_self _ _ _ _ _ _ _ _ _ _ _ _ _ R1.out.topd R2.out.topd R3.out.topd R4.out.topd (by omega) (by omega)).mono ?_; rintro e w1 ⟨rfl, hn1⟩; have hn1 := undrew hn1; have z0 := (hn1.cell (p := ⟨b, off + k * 2, none⟩) (by simp; omega)).trans x0; have z1 := (hn1.cell (p := ⟨b, off + k * 2 + 1, none⟩) (by simp; omega)).trans x1; have z2 := (hn1.cell (p := ⟨b', off' + k * 2, none⟩) (by simp; omega)).trans y0; have z3 := (hn1.cell (p := ⟨b', off' + k * 2 + 1, none⟩) (by simp; omega)).trans y1))
      have hp1 := hp.below (hn1.mono hsz)
      have hq1 := hq.below (hn1.mono hsz)
      have hb1 := bl hb (Nat.le_refl _) hn1
      clear hp hq hb hn1 z0 z1 z2 z3 x0 x1 y0 y1
      go_wp2
      go_roundw
      case rel => exact ⟨k + 1, by omega, by go_num, hp1, hq1, hb1⟩
      case measure => simp [intOf]; omega
    · obtain rfl : k = n := by omega
      go_wp2
      go_ret
      exact ⟨rfl, hb⟩
/-- What both PathsAdd hand back, and when. -/
theorem addW (n frm : Int) (m : Nat) (D : Nat → PD) (r : Nat) (f : Nat → Int) (hm : m ≤ 1048576) (hr : r ≤ 1048576) : ∃ (ok : Bool) (k : Nat) (E : Nat → PD), k ≤ 8 ∧ (∀ i, i < k → (E i).m1 ≤ 5 ∧ (E i).m2 ≤ 5) ∧
    (ok = true → m < 8 ∧ (r : Int) = n ∧ pathsV r D m = true ∧ runsV r r f ∧ 0 ≤ frm ∧ okTo D m f frm r ∧ k = m + 1 ∧ E = addD D m (fitP D m r f frm)) ∧
    (∀ (W : World) (A : Option Addr) (d : Nat) (R : Option Addr) (rd : Nat), PsRn W W.heap.size A m D → Rn W W.heap.size R r f → Calls Try.prog 25 #[.int .i64 n, .slice A m d, .int .i64 frm, .slice R r rd] W (AddRes W 31 ok k E)) ∧
    (∀ (W : World) (A : Option Addr) (d : Nat) (R : Option Addr) (rd : Nat), PsRn W W.heap.size A m D → Rn W W.heap.size R r f → Calls Try.prog 24 #[.int .i64 n, .slice A m d, .int .i64 frm, .slice R r rd] W (AddRes W 31 ok k E)) := by
  rcases Classical.em (pathsV n D m = true ∧ runsV n r f ∧ 0 ≤ frm) with hv | hv
  · obtain ⟨h1, h2, h3⟩ := hv
    obtain rfl : (r : Int) = n := h2.2.1
    have hm8 : m ≤ 8 := (pathsV_iff.1 h1).2.2.1
    have hr5 : 1 ≤ r ∧ r ≤ 5 := by have := h2.1; omega
    rcases Classical.em (okTo D m f frm r) with ho | ho
    · have hfst := fit_first (frm := frm) (pathsV_iff.1 h1).2.2.2 hr5 h2.2.2 h3 ho
      have S := fun (W : World) (A : Option Addr) (d : Nat) (R : Option Addr) (rd : Nat) (p : PsRn W W.heap.size A m D) (q : Rn W W.heap.size R r f) => sAdd_go A m d D R r rd r frm _ _ W p h1 ⟨by omega, hr5.2⟩ ((sFit_go A m d D R r rd f frm W p q h1 h2 h3).mono fun e w' h => h.elim (fun x => x.2) (fun x => absurd ho x.1)) hfst
      have I := fun (W : World) (A : Option Addr) (d : Nat) (R : Option Addr) (rd : Nat) (p : PsRn W W.heap.size A m D) (q : Rn W W.heap.size R r f) => iAdd_go A m d D R r rd r frm _ _ W p h1 ⟨by omega, hr5.2⟩ ((iFit_go A m d D R r rd f frm W p q h1 h2 h3).mono fun e w' h => h.elim (fun x => x.2) (fun x => absurd ho x.1))
      by_cases h8 : m = 8
      · exact ⟨false, 0, D, by omega, fun i hi => absurd hi (by omega), fun h => (by cases h), fun W A d R rd p q => (S W A d R rd p q).mono fun _ _ h => h.elim (fun x => absurd x.1 (by omega)) (fun x => x.2), fun W A d R rd p q => (I W A d R rd p q).mono fun _ _ h => h.elim (fun x => absurd x.1 (by omega)) (fun x => x.2)⟩
      · refine ⟨true, m + 1, _, by omega, fun i hi => ?_, fun _ => ⟨by omega, rfl, h1, h2, h3, ho, rfl, rfl⟩, fun W A d R rd p q => (S W A d R rd p q).mono fun _ _ h => h.elim (fun x => x.2) (fun x => absurd x.1 h8), fun W A d R rd p q => (I W A d R rd p q).mono fun _ _ h => h.elim (fun x => x.2) (fun x => absurd x.1 h8)⟩
        by_cases e : i = m
        · subst e; rw [addD_at]; exact ⟨hr5.2, hr5.2⟩
        · rw [addD_lt (by omega)]
          have := pathsV_at h1 (show i < m by omega)
          omega
    · exact ⟨false, 0, D, by omega, fun i hi => absurd hi (by omega), fun h => (by cases h), fun W A d R rd p q => sAdd_no A m d D R r rd r frm W ((sFit_go A m d D R r rd f frm W p q h1 h2 h3).mono fun e w' h => h.elim (fun x => absurd x.1 ho) (fun x => x.2)),
        fun W A d R rd p q => iAdd_no A m d D R r rd r frm W ((iFit_go A m d D R r rd f frm W p q h1 h2 h3).mono fun e w' h => h.elim (fun x => absurd x.1 ho) (fun x => x.2))⟩
  · exact ⟨false, 0, D, by omega, fun i hi => absurd hi (by omega), fun h => (by cases h), fun W A d R rd p q => sAdd_no A m d D R r rd n frm W (sFit_no A m d D R r rd f n frm W p q (by omega) (by omega) hv),
      fun W A d R rd p q => iAdd_no A m d D R r rd n frm W (iFit_no A m d D R r rd f n frm W p q (by omega) (by omega) hv)⟩
set_option maxRecDepth 100000 in
set_option maxHeartbeats 8000000 in
theorem y_FnAddPath (a0 : Option Addr) (len0 cap0 : Nat) (w : World) (hA : BytesAt w.heap.size w a0 len0) (hl : len0 ≤ 1048576) (hc : len0 ≤ cap0) (hm : cap0 ≤ 9223372036854775807) :
    Calls Try.prog 5 #[.slice a0 len0 cap0] w fun e w' => e = .returned (.bool true) ∧ Below w.heap.size w w' := by
  have hAH := Lib.hid hA
  have hd0 : decide ((1048576 : Int) < (len0 : Int)) = false := by simp; omega
  obtain ⟨i0, ji0, jz0, jz1, jz2⟩ := info_parts intInfo
  have II := Lib.hid (And.intro ji0 (And.intro jz0 (And.intro jz1 jz2)))
  clear hA ji0 jz0 jz1 jz2
  go_enter Try.func5, Try.ntmps5
  go_wp2_with fail
  refine (d_DrawPathsAdd a0 len0 cap0 w hAH.out hl hc hm).mono ?_
  rintro e wb ⟨n, g, m, c, D, frm, R, r, d, f, rfl, hr5, hfr, hRn, hn, hm10, hD, hp, hb⟩
  clear hc hm hAH hl hd0
  have HB := Lib.hid hb
  have P0 := Lib.hid hp
  have R0 := Lib.hid hRn
  obtain ⟨ok, kk, E, hk8, hE5, hyes, hS, hI⟩ := addW (n : Int) frm m D r f (by omega) (by omega)
  have S := Lib.hid hS
  have I := Lib.hid hI
  have Y := Lib.hid hyes
  have E5 := Lib.hid (fun i (hi : i < kk) => show (E i).m1 ≤ 1048576 ∧ (E i).m2 ≤ 1048576 from by have := hE5 i hi; omega)
  clear hb hp hRn hS hI hyes hE5
  go_wp2_with fail
  refine (I.out _ _ _ _ _ P0.out R0.out).mono ?_
  rintro e w1 ⟨g1, c1, rfl, hgr, hn1⟩
  have O1 := Lib.hid (hgr.rn (Nat.le_refl _))
  have hc1 : kk ≤ c1 := by obtain ⟨G, xs, _, ho⟩ := hgr; exact (owns_cap ho).1
  have P1 := Lib.hid (P0.out.topb hn1)
  have R1 := Lib.hid (R0.out.topb hn1)
  have HB1 := Lib.hid (bl HB.out (Nat.le_refl _) hn1)
  clear hgr hn1 P0 R0 HB I
  go_wp2_with fail
  refine (S.out _ _ _ _ _ P1.out R1.out).mono ?_
  rintro e w2 ⟨g2, c2, rfl, hgr, hn2⟩
  have O2 := Lib.hid (hgr.rn (Nat.le_refl _))
  have O1b := Lib.hid (O1.out.topb hn2)
  have P2 := Lib.hid (P1.out.topb hn2)
  have R2 := Lib.hid (R1.out.topb hn2)
  have HB2 := Lib.hid (bl HB1.out (Nat.le_refl _) hn2)
  clear hgr hn2 P1 R1 HB1 S O1
  go_wp2_with fail
  refine (samePathsI _ _ kk c1 c2 E w2 O1b.out O2.out (by omega) E5.out).mono ?_
  rintro e w3 ⟨rfl, hn3⟩
  have O2c := Lib.hid (O2.out.topb hn3)
  have O1c := Lib.hid (O1b.out.topb hn3)
  have P3 := Lib.hid (P2.out.topb hn3)
  have R3 := Lib.hid (R2.out.topb hn3)
  have HB3 := Lib.hid (bl HB2.out (Nat.le_refl _) hn3)
  clear hn3 P2 R2 HB2 O1b O2
  cases ok
  · clear P3 R3 Y
    go_wp2_with fail
    refine (samePathsI _ _ kk c1 c2 E w3 O1c.out O2c.out (by omega) E5.out).mono ?_
    rintro e w4 ⟨rfl, hn4⟩
    have HB4 := Lib.hid (bl HB3.out (Nat.le_refl _) hn4)
    clear hn4 O1c O2c HB3
    go_wp2
    go_ret
    exact ⟨rfl, HB4.out⟩
  obtain ⟨h8, hrn, h1, h2, h3, h4, rfl, rfl⟩ := Y.out rfl
  obtain rfl : r = n := by omega
  have hr6 : 1 ≤ r ∧ r ≤ 5 := by omega
  have hve := fit_adds h1 h8 hr6 h2.2.2 h3 h4
  have hdl : ∀ t, t < r → (fitP D m r f frm).f2 t - (fitP D m r f frm).f1 t = f t := fun t ht => by
    show rdy D m f frm (t + 1) - inT D m f frm t = f t
    rw [rdy_succ]; omega
  obtain ⟨p, hp⟩ : ∃ p, fitP D m r f frm = p := ⟨_, rfl⟩
  rw [hp] at hve hdl O1c O2c E5
  have hEl : ∀ i, i < m → addD D m p i = D i := fun i hi => addD_lt hi
  have hbz : ∀ t, t < r → busy (addD D m p) t (m + 1) = busy D t m + f t := fun t ht => by rw [busy_add, hdl t ht]
  have hof : ∀ t, (ordN (fun i => (addD D m p i).f1 t) (m + 1)).filter (fun y => y != m) = ordN (fun i => (D i).f1 t) m := fun t => ord_add fun i hi => by rw [hEl i hi]
  obtain ⟨E, hE⟩ : ∃ E, addD D m p = E := ⟨_, rfl⟩
  rw [hE] at hve O1c O2c E5 hEl hbz hof
  have PV := Lib.hid h1
  have VE := Lib.hid hve
  have BZ := Lib.hid hbz
  have OF := Lib.hid hof
  have EL := Lib.hid hEl
  have RB : Hid (∀ t, t < r → 1 ≤ f t ∧ f t ≤ 100) := h2.2.2
  have OL := Lib.hid (fun (t : Nat) (ht : t < r) (W : World) (A : Option Addr) (c : Nat) (h : PsRn W W.heap.size A m D) => (iOrd_yes A m c D r t W h (hasS_yes h1 ⟨by omega, by omega⟩)).mono fun _ _ h => h.ord)
  have OE := Lib.hid (fun (t : Nat) (ht : t < r) (W : World) (A : Option Addr) (c : Nat) (h : PsRn W W.heap.size A (m + 1) E) => (iOrd_yes A (m + 1) c E r t W h (hasS_yes hve ⟨by omega, by omega⟩)).mono fun _ _ h => h.ord)
  obtain ⟨rb, ro, rfl, lrb, crb⟩ := R3.out (by omega)
  have CR := Lib.hid crb
  have E5' : Hid (∀ i, i < m → (D i).m1 ≤ 1048576 ∧ (D i).m2 ≤ 1048576) := fun i hi => by have := E5.out i (by omega); rw [EL.out i hi] at this; exact this
  have jt : (m : Int) ≤ (c1 : Int) := by omega
  have j0 : (0 : Int) ≤ (m : Int) := by omega
  have hw0 : IntKind.i64.wrap ((m : Int) + 1) = (m : Int) + 1 := IntWalk.i64_in _ (by omega)
  clear Y hrn h1 h2 h4 hve hdl hp hEl hbz hof hE R3 crb O2c E5
  go_wp2_with fail
  go_loopw [12] (fun i wr => ∃ t : Nat, t ≤ r ∧ i = .int .i64 t ∧ Below w3.heap.size w3 wr) (fun i _ => (r - intOf i).toNat)
  case atStart => exact ⟨0, Nat.zero_le _, rfl, Below.refl _ _⟩
  case round =>
    obtain ⟨t, ht, rfl, hb⟩ := hrel
    have P4 := Lib.hid (P3.out.topb hb)
    have O4 := Lib.hid (O1c.out.topb hb)
    have HB4 := Lib.hid (bl HB3.out (Nat.le_refl _) hb)
    by_cases hlt : t < r
    · go_wp2_with fail
      refine (OL.out t hlt _ _ _ P4.out).mono ?_
      rintro e w4 ⟨gb, cb, rfl, hgb, hob, hb4⟩
      have P5 := Lib.hid (P4.out.topb hb4)
      have O5 := Lib.hid (O4.out.topb hb4)
      have hb4 := bl hb (Nat.le_refl _) hb4
      have OB := Lib.hid hob
      clear hob hb P4 O4 HB4
      go_wp2_with fail
      refine (OE.out t hlt _ _ _ O5.out).mono ?_
      rintro e w5 ⟨ga, ca, rfl, hga, hoa, hb5⟩
      have P6 := Lib.hid (P5.out.topb hb5)
      have O6 := Lib.hid (O5.out.topb hb5)
      have OB6 := Lib.hid (OB.out.call hb5)
      have hs5 := hb5.size
      have hb5 := bl hb4 (Nat.le_refl _) hb5
      have HB5 := Lib.hid hb5
      obtain ⟨oa, Ea, la, -, cca⟩ := hoa (by omega)
      simp only [Option.some.injEq, Addr.mk.injEq, and_true, true_and] at Ea
      subst Ea
      have CA := Lib.hid cca
      have W0 := Lib.hid (World.ownsRow_made (base := w5.heap.size) (size := 1) (e := 3) w5 #[] 0 (Nat.le_refl _) (by unfold maxLen; omega) (by simp))
      have hn0 : Below w5.heap.size w5 (w5.alloc (.cells #[] 3)) := by go_grown
      have HN0 := Lib.hid hn0
      clear hb4 hb5 OB P5 O5 hoa cca hn0
      go_wp2_with fail
      go_loopw [17, 18] (fun v i wq => ∃ (j kq gR cR : Nat), j ≤ m + 1 ∧ i = .int .i64 j ∧ v = .slice (some ⟨gR, 0, none⟩) kq cR ∧ Hid (wq.ownsRow w5.heap.size 3 1 (.slice (some ⟨gR, 0, none⟩) kq cR) kq (nats (((ordN (fun i => (E i).f1 t) (m + 1)).take j).filter (fun y => y != m)))) ∧ Hid (Below w5.heap.size w5 wq)) (fun _ i _ => (m + 1 - intOf i).toNat)
      case atStart => exact ⟨0, 0, _, _, Nat.zero_le _, rfl, rfl, W0.out, HN0.out⟩
      case round =>
        clear W0 HN0
        obtain ⟨j, kq, gR, cR, hj, rfl, rfl, hO, hb⟩ := hrel
        have hsq := hb.out.size
        have hgl := hO.out.lt gR rfl
        have hcp := owns_cap hO.out
        have hkl := hO.out.1
        by_cases hjl : j < m + 1
        · have cx := (hb.out.cell (p := ⟨ga, 0 + j, none⟩) la).trans (CA.out j hjl)
          have hjL : j < (ordN (fun i => (E i).f1 t) (m + 1)).length := by rw [ord_len]; exact hjl
          rw [ordAt_eq hjL, Nat.zero_add] at cx
          have htk : (ordN (fun i => (E i).f1 t) (m + 1)).take (j + 1) = (ordN (fun i => (E i).f1 t) (m + 1)).take j ++ [(ordN (fun i => (E i).f1 t) (m + 1))[j]] := by rw [List.take_add_one, List.getElem?_eq_getElem hjL]; rfl
          have k0 : (0 : Int) ≤ (j : Int) := by omega
          have k1 : (j : Int) < (m : Int) + 1 := by omega
          have k2 : j < m + 1 := by omega
          have hkl2 : kq ≤ j := by
            have := List.length_filter_le (fun y => y != m) ((ordN (fun i => (E i).f1 t) (m + 1)).take j)
            rw [nats_len] at hkl
            rw [List.length_take] at this
            omega
          obtain ⟨x, hx⟩ : ∃ x, (ordN (fun i => (E i).f1 t) (m + 1))[j] = x := ⟨_, rfl⟩
          rw [hx] at cx htk
          by_cases hxm : x = m
          · have dn : ((x : Int) != (m : Int)) = false := eq_lit (by omega)
            have hO2 : Hid (wr.ownsRow w5.heap.size 3 1 (.slice (some ⟨gR, 0, none⟩) kq cR) kq (nats (((ordN (fun i => (E i).f1 t) (m + 1)).take (j + 1)).filter (fun y => y != m)))) := by
              show World.ownsRow _ _ _ _ _ _ _
              rw [htk, List.filter_append]
              simpa [hxm] using hO.out
            clear hO hxm hx htk
            go_wp2
            go_roundw
            case rel => exact ⟨j + 1, kq, gR, cR, by omega, by go_num, rfl, hO2, hb⟩
            case measure => simp [intOf]; omega
          · have dn : ((x : Int) != (m : Int)) = true := ne_lit (by omega)
            have hO3 := Lib.hid (hO.out.alloc (.cells #[.int .i64 (x : Int)] 3))
            have HX : Hid (nats (((ordN (fun i => (E i).f1 t) (m + 1)).take j).filter (fun y => y != m)) ++ [.int .i64 (x : Int)] = nats (((ordN (fun i => (E i).f1 t) (m + 1)).take (j + 1)).filter (fun y => y != m))) := by
              show _ = _
              rw [htk, List.filter_append]
              simp [nats, hxm]
            obtain ⟨ji0, jz0, jz1, jz2⟩ := II.out
            clear hO hxm hx htk
            go_wp2_with (at_builtin; refine wpList_append_lies _ rfl _ _ _ rfl w5.heap.size 3 i0 (.int .i64 0) 1 8 Try.underlying27 ji0 jz0 jz1 jz2 rfl (by omega) (.slice (some ⟨gR, 0, none⟩) kq cR) kq _ rfl hO3.out ⟨wr.heap.size, 0, none⟩ 1 1 [.int .i64 (x : Int)] rfl rfl ?d1 (by simp [Value.oneCell']) (by omega) ?d3 ?d4 ?d5 (wr.heap.size + 1) ?d6 ?_)
            try case d1 => exact World.news_of_block (cs := #[.int .i64 (x : Int)]) (t := 3) (fr := (0, 0)) (heap_alloc_new wr _)
            case d3 => unfold maxLen; omega
            case d4 => omega
            case d5 => first | omega | (simp; omega)
            try case d6 => simp
            intro g6 k6 w6 hown6 hg6 hat6 hlt6
            have hg6 : (wr.alloc (.cells #[.int .i64 (x : Int)] 3)).grownBy w6 (some gR) := hg6
            have hb6 : Hid (Below w5.heap.size w5 w6) := (show Below w5.heap.size w5 (wr.alloc (.cells #[.int .i64 (x : Int)] 3)) from hb.out.alloc hsq _).grown hg6 (by simp; omega) (fun k e => by injection e with e; omega)
            rw [HX.out] at hown6
            have HO6 := Lib.hid hown6
            clear hown6 hg6 hb hO3 HX ji0 jz0 jz1 jz2 hat6 hlt6
            go_wp2_with fail
            go_roundw
            case rel => exact ⟨j + 1, kq + 1, g6, k6, by omega, by go_num, rfl, HO6, hb6⟩
            case measure => simp [intOf]; omega
        · obtain rfl : j = m + 1 := by omega
          have hall : (ordN (fun i => (E i).f1 t) (m + 1)).take (m + 1) = ordN (fun i => (E i).f1 t) (m + 1) := List.take_of_length_le (by rw [ord_len]; exact Nat.le_refl _)
          have hO2 := hO.out
          rw [hall, OF.out t] at hO2
          have hkm : m = kq := by have := hO2.1; rw [nats_len, ord_len] at this; omega
          subst hkm
          have S1 := Lib.hid ((Ow.of_owns (f := fun i => ((ordAt (fun i => (D i).f1 t) m i : Nat) : Int)) hO2 (fun i hi => by rw [nats_at (by rw [ord_len]; exact hi), ordAt_eq (by rw [ord_len]; exact hi)])).rn (B := wr.heap.size) hgl.2)
          have S2 := Lib.hid ((OB6.out.call hb.out).rn (B := wr.heap.size) (by omega))
          have PQ := Lib.hid (P6.out.topb hb.out)
          have OQ := Lib.hid (O6.out.topb hb.out)
          have HBq := Lib.hid (bl HB5.out (Nat.le_refl _) hb.out)
          have vr := (HBq.out.cell (p := ⟨rb, ro + t, none⟩) lrb).trans (CR.out t hlt)
          have lr : rb < wr.heap.size := by have := HBq.out.size; omega
          obtain ⟨bz, hbz⟩ : ∃ z, busy D t m = z := ⟨_, rfl⟩
          have hbd := busy_bd PV.out (k := t) (by omega) m (Nat.le_refl _)
          have bl1 := fun (W : World) (A : Option Addr) (c : Nat) (h : PsRn W W.heap.size A m D) => iBusy_yes A m c D r t W h (hasS_yes PV.out ⟨by omega, by omega⟩)
          have be1 := fun (W : World) (A : Option Addr) (c : Nat) (h : PsRn W W.heap.size A (m + 1) E) => iBusy_yes A (m + 1) c E r t W h (hasS_yes VE.out ⟨by omega, by omega⟩)
          rw [hbz] at bl1 hbd
          rw [BZ.out t hlt, hbz] at be1
          have BL := Lib.hid bl1
          have BE := Lib.hid be1
          have hf := RB.out t hlt
          have dne : ((bz + f t) != (bz + f t)) = false := eq_lit rfl
          have hwz : IntKind.i64.wrap (bz + f t) = bz + f t := IntWalk.i64_in _ (by omega)
          have t0 : (0 : Int) ≤ (t : Int) := by omega
          have t1 : (t : Int) < (r : Int) := by omega
          clear hall hO2 hO hb P6 O6 OB6 hbz bl1 be1 CA hcp hkl hf
          go_wp2_with fail
          go_region_held3 (fun V => V.cell? ⟨rb, ro + t, none⟩ = some (.int .i64 (f t))) (go_keep)
            (first
              | (go_at_call 22; refine (sameI_b (some ⟨gR, 0, none⟩) (some ⟨gb, 0, none⟩) m cR cb _ _ S1.out.topd S2.out.topd (by omega)).mono ?_; rintro e v1 ⟨rfl, hn1⟩; have hB1 : Below wr.heap.size wr v1 := undrew hn1; have z1 := (hB1.cell (p := ⟨rb, ro + t, none⟩) lr).trans vr; clear hn1)
              | (go_at_call_of 15 c1; refine (BE.out _ _ _ (OQ.out.topb hB2)).mono ?_; rintro e v3 ⟨rfl, hn3⟩; have hB3 : Below wr.heap.size wr v3 := bl hB2 (Nat.le_refl _) hn3; have z3 := (hB3.cell (p := ⟨rb, ro + t, none⟩) lr).trans vr; clear hn3)
              | (go_at_call_of 15 c; refine (BL.out _ _ _ (PQ.out.topb hB2)).mono ?_; rintro e v3 ⟨rfl, hn3⟩; have hB3 : Below wr.heap.size wr v3 := bl hB2 (Nat.le_refl _) hn3; have z3 := (hB3.cell (p := ⟨rb, ro + t, none⟩) lr).trans vr; clear hn3)
              | (go_at_call_of 15 c1; refine (BE.out _ _ _ (OQ.out.topb hB1)).mono ?_; rintro e v2 ⟨rfl, hn2⟩; have hB2 : Below wr.heap.size wr v2 := bl hB1 (Nat.le_refl _) hn2; have z2 := (hB2.cell (p := ⟨rb, ro + t, none⟩) lr).trans vr; clear hn2)
              | (go_at_call_of 15 c; refine (BL.out _ _ _ (PQ.out.topb hB1)).mono ?_; rintro e v2 ⟨rfl, hn2⟩; have hB2 : Below wr.heap.size wr v2 := bl hB1 (Nat.le_refl _) hn2; have z2 := (hB2.cell (p := ⟨rb, ro + t, none⟩) lr).trans vr; clear hn2))
          all_goals
            have hbn : Below w3.heap.size w3 v3 := bl HBq.out (Nat.le_refl _) hB3
            clear hB1 hB2 hB3 z1 z2 z3 vr hwz
            go_wp2
            go_roundw
            case rel => exact ⟨t + 1, by omega, by go_num, hbn⟩
            case measure => simp [intOf]; omega
    · obtain rfl : t = r := by omega
      have OM := Lib.hid ((O4.out.less (m := m) (by omega)).congr EL.out)
      go_wp2_with fail
      refine (samePathsI _ _ m c1 c D _ OM.out P4.out (by omega) E5'.out).mono ?_
      rintro e w4 ⟨rfl, hn4⟩
      have O5 := Lib.hid (O4.out.topb hn4)
      have HB5 := Lib.hid (bl HB4.out (Nat.le_refl _) hn4)
      clear hn4 O4 P4 HB4 OM hb
      go_wp2_with fail
      refine (iPathsV_is true _ (m + 1) c1 E _ _ VE.out O5.out (by omega)).mono ?_
      rintro e w5 ⟨rfl, hn5⟩
      have HB6 := Lib.hid (bl HB5.out (Nat.le_refl _) hn5)
      clear hn5 O5 HB5
      go_wp2
      go_ret
      exact ⟨rfl, HB6.out⟩
theorem w_FnAddPath (a0 : Option Addr) (len0 cap0 : Nat) (z0 : List Int) (w : World) (w0 : IsRow .u8 w a0 len0 cap0 z0) :
    Calls Try.prog 5 #[.slice a0 len0 cap0] w fun e w' => e = .returned (.bool true) ∧ Below w.heap.size w w' := by
  obtain ⟨hA, hc, hm⟩ := w0.bytes
  by_cases hs0 : 1048576 < len0
  · have hd0 : decide ((1048576 : Int) < (len0 : Int)) = true := by simp; omega
    clear w0 hA
    go_enter Try.func5, Try.ntmps5
    go_wp2
    go_ret
    exact ⟨rfl, Below.refl _ _⟩
  · exact y_FnAddPath a0 len0 cap0 w hA (by omega) hc hm
end Go.Proofs.Ytjppkcfbhhjniaa
