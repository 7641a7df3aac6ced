/-
  The walk of FnBookRead.
-/
import Derived.Test.YtanfhgliilkhjaaBkQD
import Derived.Test.YtanfhgliilkhjaaBkX
import Derived.Test.YtanfhgliilkhjaaBkDG
import Derived.Deep.CutRange
namespace Go.Proofs.Ytanfhgliilkhjaa
open Go.RowKit Go.Deep
set_option linter.unusedVariables false

theorem RingRes.rdd {w w' : World} {ok : Bool} {xs : List Int} {e : Ending} (h : RingRes w ok xs e w') : ∃ g c : Nat, e = .returned (.tuple #[.slice (some ⟨g, 0, none⟩) xs.length c, .bool ok]) ∧ (xs.length ≤ c ∧ c ≤ maxLen) ∧ Rn w' w'.heap.size (some ⟨g, 0, none⟩) xs.length (fun i => xs.getD i 0) ∧ Below w.heap.size w w' := by
  obtain ⟨g, c, he, hg, ho, hb⟩ := h
  exact ⟨g, c, he, hg.2.2, ho.rn hg.2.1, hb⟩
theorem Rn.tail {w : World} {B g n k : Nat} {f : Nat → Int} (h : Rn w B (some ⟨g, 0, none⟩) n f) (hk : k ≤ n) : Rn w B (some ⟨g, k, none⟩) (n - k) (fun i => f (k + i)) := fun hn => by
  obtain ⟨b, off, e, hb, hc⟩ := h (by omega)
  simp only [Option.some.injEq, Addr.mk.injEq, and_true] at e
  obtain ⟨rfl, rfl⟩ := e
  exact ⟨g, k, rfl, hb, fun i hi => by have := hc (k + i) (by omega); rwa [Nat.zero_add] at this⟩
theorem rn_cell0 {w : World} {B g n : Nat} {f : Nat → Int} (h : Rn w B (some ⟨g, 0, none⟩) n f) (hn : 0 < n) : w.cell? ⟨g, 0, none⟩ = some (.int .i64 (f 0)) := by
  obtain ⟨b, off, e, _, hc⟩ := h hn
  simp only [Option.some.injEq, Addr.mk.injEq, and_true] at e
  obtain ⟨rfl, rfl⟩ := e
  exact hc 0 hn
theorem rn_lt {w : World} {B g n : Nat} {f : Nat → Int} (h : Rn w B (some ⟨g, 0, none⟩) n f) (hn : 0 < n) : g < B := by
  obtain ⟨b, off, e, hb, _⟩ := h hn
  simp only [Option.some.injEq, Addr.mk.injEq, and_true] at e
  obtain ⟨rfl, rfl⟩ := e
  exact hb
set_option maxHeartbeats 1000000 in
theorem d_DrawBookRead (A : Option Addr) (len cap : Nat) (w : World) (hA : BytesAt w.heap.size w A len) (hl : len ≤ 1048576) (hc : len ≤ cap) (hm : cap ≤ 9223372036854775807) :
    Calls Try.prog 43 #[.slice A len cap] w (TwoDr w) := by
  go_enter Try.func43, Try.ntmps43
  go_wp2_with fail
  refine (open_any A len cap w hA hl hc hm).mono ?_
  rintro e w1 ⟨rfl, hR, hb⟩
  have hRl := hR.lt
  have HB := Lib.hid hb
  clear hb
  go_wp2_with fail
  refine (ring_any _ _ 0 w1 hR (by omega)).mono ?_
  rintro e w2 ⟨g, k, c, D, g2, n, c2, f, rfl, hk, hL, hd, hn, hF, hg⟩
  have HD := Lib.hid hd
  have HL := Lib.hid hL
  have HF := Lib.hid hF
  have HB3 : Hid (Below w.heap.size w w2) := gb_bl HB.out HB.out.size (Nat.le_refl _) hg
  clear hd hg hR hL hF
  go_wp2
  go_ret2
  exact ⟨g, k, c, D, g2, n, c2, f, rfl, ⟨⟨by omega, HD.out.cap2⟩, HL.out, HD.out.rn, HB3.out, fun i hi a n c' hc => HD.out.caps hi hc⟩, hn, HF.out⟩
set_option maxRecDepth 100000 in
set_option maxHeartbeats 8000000 in
theorem y_FnBookRead (a0 : Option Addr) (len0 cap0 : Nat) (w : World) (hA : BytesAt w.heap.size w a0 len0) (hl : len0 ≤ 1048576) (hc : len0 ≤ cap0) (hm : cap0 ≤ 9223372036854775807) :
    Calls Try.prog 10 #[.slice a0 len0 cap0] w fun e w' => e = .returned (.bool true) ∧ Below w.heap.size w w' := by
  have hAH := Lib.hid hA
  have hd0 : decide ((1048576 : Int) < (len0 : Int)) = false := by simp; omega
  clear hA
  go_enter Try.func10, Try.ntmps10
  go_wp2_with fail
  refine (d_DrawBookRead a0 len0 cap0 w hAH.out hl hc hm).mono ?_
  rintro e V ⟨g, m, c, D, g2, n, c2, f, rfl, ⟨⟨hm7, hmc, hcx⟩, hL, hS, hB, _⟩, ⟨hn, hnc, hcx2⟩, hF⟩
  have HD := Lib.hid (show ∀ i, i < m → (D i).n ≤ 1048576 from fun i hi => by have := hL i hi; omega)
  have S0 := Lib.hid hS
  have F0 := Lib.hid hF
  have B0 := Lib.hid hB
  clear hL hS hB hF hAH
  obtain ⟨ok, xs, hv, hxl⟩ := readV_is ⟨n, f⟩ D m
  have HV := Lib.hid hv
  clear hv
  go_wp2_with fail
  refine (iRead _ m c D _ c2 ⟨n, f⟩ _ S0.out (by omega) HD.out F0.out (by show n ≤ _; omega) ok xs HV).mono ?_
  rintro e w1 h
  obtain ⟨go, co, rfl, ⟨hxc, hxm⟩, ro, hb1⟩ := h.rdd
  have S1 := Lib.hid (S0.out.topb hb1)
  have F1 := Lib.hid (F0.out.topb hb1)
  have B1 := Lib.hid (bl B0.out (Nat.le_refl _) hb1)
  have O1 := Lib.hid ro
  clear h ro hb1 S0 F0 B0
  go_wp2_with fail
  refine (sRead _ m c D _ c2 ⟨n, f⟩ _ S1.out (by omega) HD.out F1.out (by show n ≤ _; omega) hnc hcx2 ok xs HV).mono ?_
  rintro e w2 h
  obtain ⟨gw, cw, rfl, _, rw2, hb2⟩ := h.rdd
  have S2 := Lib.hid (S1.out.topb hb2)
  have F2 := Lib.hid (F1.out.topb hb2)
  have B2 := Lib.hid (bl B1.out (Nat.le_refl _) hb2)
  have O2 := Lib.hid (O1.out.topb hb2)
  have W2 := Lib.hid rw2
  clear h rw2 hb2 S1 F1 B1 O1
  have hse := fun (W : World) (p : Rn W W.heap.size (some ⟨go, 0, none⟩) xs.length (fun i => xs.getD i 0)) (q : Rn W W.heap.size (some ⟨gw, 0, none⟩) xs.length (fun i => xs.getD i 0)) => sameI (some ⟨go, 0, none⟩) xs.length co (fun i => xs.getD i 0) (some ⟨gw, 0, none⟩) xs.length cw (fun i => xs.getD i 0) W p q (by omega) (by omega)
  rw [eqI_self] at hse
  have HSE := Lib.hid hse
  clear hse
  cases ok
  · go_wp2_with fail
    refine (HSE.out _ O2.out W2.out).mono ?_
    rintro e w3 ⟨rfl, q3, rfl⟩
    go_wp2_with fail
    refine (HSE.out _ (O2.out.topq q3) (W2.out.topq q3)).mono ?_
    rintro e w4 ⟨rfl, q4, rfl⟩
    clear S2 F2 O2 W2 HSE
    go_wp2
    go_ret
    exact ⟨rfl, below_dn B2.out _⟩
  go_wp2_with fail
  refine (HSE.out _ O2.out W2.out).mono ?_
  rintro e w3 ⟨rfl, q3, rfl⟩
  have hrv : readV ⟨n, f⟩ D m ∧ xs = natI (rdg ⟨n, f⟩ D m n) := by
    rcases HV.out with h | h
    · exact ⟨h.1, h.2.2⟩
    · cases h.2.1
  obtain ⟨hrv, hxs⟩ := hrv
  have hrr := (read_rings hrv).1
  rw [show natI (rdg ⟨n, f⟩ D m (LD.n ⟨n, f⟩)) = xs from hxs.symm] at hrr
  have hrr : RingV D m xs.length (fun i => xs.getD i 0) true (lst f n) := hrr
  have XS := Lib.hid hxs
  have RV := Lib.hid hrv
  have RR := Lib.hid hrr
  have S3 := Lib.hid (S2.out.topq q3)
  have F3 := Lib.hid (F2.out.topq q3)
  have O3 := Lib.hid (O2.out.topq q3)
  have B3 := Lib.hid (below_dn B2.out q3)
  clear hxs hrv hrr HV S2 F2 O2 W2 B2 HSE
  go_wp2_with fail
  refine (iRing _ m c D _ xs.length co (fun i => xs.getD i 0) _ S3.out (by omega) HD.out O3.out (by omega) true _ RR).mono ?_
  rintro e w4 h
  obtain ⟨ga, ca, rfl, _, ra, hb4⟩ := h.rdd
  have S4 := Lib.hid (S3.out.topb hb4)
  have F4 := Lib.hid (F3.out.topb hb4)
  have O4 := Lib.hid (O3.out.topb hb4)
  have B4 := Lib.hid (bl B3.out (Nat.le_refl _) hb4)
  rw [lst_len] at ra
  have ra : Rn w4 w4.heap.size (some ⟨ga, 0, none⟩) n f := by
    intro h0
    obtain ⟨b, off, e, hb, hcc⟩ := ra h0
    exact ⟨b, off, e, hb, fun i hi => by rw [hcc i hi]; simp [lst, List.getD, hi]⟩
  have hse := sameI (some ⟨ga, 0, none⟩) n ca f (some ⟨g2, 0, none⟩) n c2 f w4 ra F4.out (by omega) (by omega)
  rw [eqI_self] at hse
  have HSE := Lib.hid hse
  rw [lst_len]
  clear hse h ra hb4 S3 F3 O3 B3 RR
  go_wp2_with fail
  refine HSE.out.mono ?_
  rintro e w5 ⟨rfl, q5, rfl⟩
  have S5 := Lib.hid (S4.out.topq q5)
  have F5 := Lib.hid (F4.out.topq q5)
  have O5 := Lib.hid (O4.out.topq q5)
  have B5 := Lib.hid (below_dn B4.out q5)
  clear HSE S4 F4 O4 B4
  obtain ⟨W, hW⟩ : ∃ W, w4.drewN q5 = W := ⟨_, rfl⟩
  rw [hW] at S5 F5 O5 B5 ⊢
  clear hW
  obtain ⟨nx, hnx⟩ : ∃ nx, xs.length = nx := ⟨_, rfl⟩
  have NX := Lib.hid hnx
  rw [hnx] at O5 hxc hxl ⊢
  clear hnx
  go_wp2_with fail
  go_loopw [11] (fun i wr => ∃ k : Nat, k ≤ m ∧ i = .int .i64 k ∧ Hid (Below W.heap.size W wr)) (fun i _ => (m - intOf i).toNat)
  case atStart => exact ⟨0, Nat.zero_le _, rfl, Below.refl _ _⟩
  case round =>
    obtain ⟨k, hk, rfl, hb⟩ := hrel
    by_cases hlt : k < m
    rotate_left
    · obtain rfl : k = m := by omega
      have d1 : decide ((k : Int) < (k : Int)) = false := decide_eq_false (by omega)
      have d2 : decide (k < k) = false := decide_eq_false (by omega)
      have HZ := Lib.hid (bl B5.out (Nat.le_refl _) hb.out)
      clear hb S5 F5 O5 B5
      go_wp2
      go_ret
      exact ⟨rfl, HZ.out⟩
    have d1 : decide ((k : Int) < (m : Int)) = true := decide_eq_true (by omega)
    have d2 : decide (k < m) = true := decide_eq_true (by omega)
    by_cases hn0 : n = 0
    · have e1 : decide ((0 : Int) < (n : Int)) = false := decide_eq_false (by omega)
      have e2 : decide (0 < n) = false := decide_eq_false (by omega)
      have HZ := Lib.hid (bl B5.out (Nat.le_refl _) hb.out)
      clear hb S5 F5 O5 B5
      go_wp2
      go_ret
      exact ⟨rfl, HZ.out⟩
    have e1 : decide ((0 : Int) < (n : Int)) = true := decide_eq_true (by omega)
    have e2 : decide (0 < n) = true := decide_eq_true (by omega)
    have S6 := Lib.hid (S5.out.topb hb.out)
    have F6 := Lib.hid (F5.out.topb hb.out)
    have O6 := Lib.hid (O5.out.topb hb.out)
    obtain ⟨b, off, ak, ck, nk, fk, ee, hbB, hDk, x0, rk⟩ := S6.out.at_ hlt
    simp only [Option.some.injEq, Addr.mk.injEq, and_true] at ee
    obtain ⟨rfl, rfl⟩ := ee
    rw [Nat.zero_add] at x0
    have hcd := (RV.out.1.1.2 k hlt).1.1
    rw [hDk] at hcd
    have hcd : 1 ≤ nk ∧ nk ≤ 5 := hcd
    have DK := Lib.hid hDk
    have RK := Lib.hid rk
    have k0 : (0 : Int) ≤ (k : Int) := by omega
    have k1 : (k : Int) < (m : Int) := by omega
    clear hDk rk
    by_cases hnn : n < nk
    · have z1 : decide ((n : Int) < (nk : Int)) = true := decide_eq_true (by omega)
      have z2 : decide (n < nk) = true := decide_eq_true (by omega)
      clear S6 F6 O6 RK
      go_wp2_with fail
      go_region
      go_wp2
      go_roundw
      case rel => exact ⟨k + 1, by omega, by go_num, by obtain h9 := hb.out; exact below_dn h9 _⟩
      case measure => simp [intOf]; omega
    have z1 : decide ((n : Int) < (nk : Int)) = false := decide_eq_false (by omega)
    have z2 : decide (n < nk) = false := decide_eq_false (by omega)
    have n0 : (0 : Int) ≤ (nk : Int) := by omega
    have n1 : (nk : Int) ≤ (n : Int) := by omega
    have n2 : (n : Int) ≤ (c2 : Int) := by omega
    have n3 : (nk : Int) ≤ (c2 : Int) := by omega
    have HA := Lib.hid (fun (z : Nat) => sameI (some ⟨g2, 0, none⟩) nk c2 f ak nk ck fk (wr.drewN z) (F6.out.less (by omega)) RK.out (by omega) (by omega))
    have hnx1 : 1 ≤ nx := by
      have h1 := NX.out
      rw [XS.out, rdg_pos (by omega)] at h1
      rw [← h1, natI_len]; simp
    rcases hq : eqI nk f nk fk
    · rw [hq] at HA
      clear hq
      go_wp2_with fail
      go_quiet (first | (go_at_call 28; exact Calls.quiet_of (HA.out _)))
      go_wp2
      go_roundw
      case rel => exact ⟨k + 1, by omega, by go_num, by obtain h9 := hb.out; exact below_dn h9 _⟩
      case measure => simp [intOf]; omega
    rw [hq] at HA
    have hst := stAt_eqI (n := n) (by omega) hq
    have RD := Lib.hid (read_round RV.out hlt (by show 0 < n; omega) (by rw [DK.out]; exact hst))
    clear hq hst
    go_wp2_with fail
    go_quiet (first | (go_at_call 28; exact Calls.quiet_of (HA.out _)))
    obtain ⟨q, l, t, r, hrv, hp, hq⟩ := RD.out
    rw [DK.out] at hrv
    have HRV : Hid (ReadV ⟨n - nk, fun i => f (nk + i)⟩ D m q (natI l)) := hrv
    have XT := Lib.hid (XS.out.trans (congrArg natI hp))
    have S7 := Lib.hid (S6.out.topq nq)
    have F7 := Lib.hid (F6.out.topq nq)
    have O7 := Lib.hid (O6.out.topq nq)
    have B7 := Lib.hid (below_dn hb.out nq)
    have PB := Lib.hid (F7.out.tail (k := nk) (by omega))
    have ht0 : xs.getD 0 0 = (t : Int) := by rw [XT.out]; rfl
    have hrl : nx = r.length + 1 := by
      have h1 := NX.out
      rw [XT.out, natI_len] at h1
      rw [← h1]; rfl
    have RLN := Lib.hid hrl
    have HQ := Lib.hid hq
    have ct := rn_cell0 (O7.out) (show 0 < nx by omega)
    rw [ht0] at ct
    have golt : go < (wr.drewN nq).heap.size := rn_lt O7.out (by omega)
    clear hrv hp hq hrl ht0 RD S6 F6 O6 hb HA RK x0
    obtain ⟨nl, hnl⟩ : ∃ nl, (natI l).length = nl := ⟨_, rfl⟩
    have hnl2 := Lib.hid (show l.length = nl by rw [← natI_len]; exact hnl)
    have hnlA : l.length ≤ nl := Nat.le_of_eq hnl2.out
    have hnlB : nl ≤ l.length := Nat.le_of_eq hnl2.out.symm
    have NL := Lib.hid hnl
    clear hnl
    go_upto_region 16 with fail
    go_cut [13, 14] from 70 to 146 (fun s13 s14 wc => ∃ gr cr : Nat, s13 = .slice (some ⟨gr, 0, none⟩) nl cr ∧ s14 = .bool q ∧ Hid (Rn wc wc.heap.size (some ⟨gr, 0, none⟩) nl (fun i => (natI l).getD i 0)) ∧ Hid (Below (wr.drewN nq).heap.size (wr.drewN nq) wc))
    case first =>
      go_wp2_with fail
      all_goals
        refine (iRead _ m c D _ _ ⟨n - nk, fun i => f (nk + i)⟩ _ S7.out (by omega) HD.out (by first | exact PB.out | exact fun hn => absurd hn (by show ¬ 0 < n - nk; omega)) (by show n - nk ≤ _; omega) q _ HRV).mono ?_
        rintro e w7 h7
        obtain ⟨gr, cr, rfl, _, rr, hb7⟩ := h7.rdd
        rw [NL.out] at rr ⊢
        have R8 := Lib.hid rr
        have HB7 := Lib.hid hb7
        clear h7 rr hb7 S7 F7 O7 B7 PB HRV ct golt
        go_wp2_with fail
        try (have hce2 : nk = c2 := h.symm; clear h; subst hce2)
        go_meet
        exact ⟨gr, cr, rfl, rfl, R8.out, HB7.out⟩
    case rest =>
    obtain ⟨gr, cr, rfl, rfl, R8, HB7⟩ := hcut
    rename World => w7
    have B8 := Lib.hid (bl B7.out (Nat.le_refl _) HB7.out)
    have O8 := Lib.hid (O7.out.topb HB7.out)
    have c8 := (HB7.out.cell (p := ⟨go, 0, none⟩) golt).trans ct
    clear HB7 S7 F7 O7 B7 PB HRV ct golt
    cases q
    · clear c8 O8 R8
      go_wp2
      go_roundw
      case rel => exact ⟨k + 1, by omega, by go_num, B8.out⟩
      case measure => simp [intOf]; omega
    obtain ⟨h1, h2, h3, h4⟩ := HQ.out (by trivial)
    have h5a : r.length + 1 ≤ nx := Nat.le_of_eq RLN.out.symm
    have h5b : nx ≤ r.length + 1 := Nat.le_of_eq RLN.out
    have y1 : IntKind.i64.wrap ((nl : Int) + 1) = (nl : Int) + 1 := IntWalk.i64_in _ (by omega)
    have y2 : decide ((nl : Int) + 1 < (nx : Int)) = false := decide_eq_false (by omega)
    have y3 : (0 : Int) < (nx : Int) := by omega
    by_cases hA : nl + 1 = nx
    · have y4 : ((nl : Int) + 1 == (nx : Int)) = true := beq_iff_eq.2 (by omega)
      have h6 := h3 (by omega)
      have y5 : decide ((k : Int) < (t : Int)) = false := decide_eq_false (by omega)
      have y6 : decide (k < t) = false := decide_eq_false (by omega)
      by_cases hkt : k = t
      · have hlr := h4 hkt
        have y7 : ((k : Int) == (t : Int)) = true := beq_iff_eq.2 (by omega)
        have y8 : (k == t) = true := beq_iff_eq.2 hkt
        have y9 : (1 : Int) ≤ (nx : Int) := by omega
        have y10 : (nx : Int) ≤ (co : Int) := by omega
        have y11 : (1 : Int) ≤ (co : Int) := by omega
        have T8 := Lib.hid (O8.out.tail (k := 1) (by omega))
        have hse := fun (A : Option Addr) (cz : Nat) (hA : Rn w7 w7.heap.size A (nx - 1) (fun i => xs.getD (1 + i) 0)) => sameI (some ⟨gr, 0, none⟩) nl cr (fun i => (natI l).getD i 0) A (nx - 1) cz (fun i => xs.getD (1 + i) 0) w7 R8.out hA (by omega) (by omega)
        have hee : eqI nl (fun i => (natI l).getD i 0) (nx - 1) (fun i => xs.getD (1 + i) 0) = true := by
          rw [show nx - 1 = nl by omega]
          refine eqI_yes fun i hi => ?_
          rw [XT.out, ← hlr, Nat.add_comm 1 i]
          rfl
        rw [hee] at hse
        have HSE := Lib.hid hse
        clear hse hee R8 O8 hkt hA h3 h4 hlr HQ XT
        go_wp2_with fail
        all_goals
          refine (HSE.out _ _ (by first | exact T8.out | exact fun hn => absurd hn (by omega))).mono ?_
          rintro e w8 ⟨rfl, q8, rfl⟩
          have B9 := Lib.hid (below_dn B8.out q8)
          clear B8 T8 HSE
          try subst h
          go_wp2
          go_roundw
          case rel => exact ⟨k + 1, by omega, by go_num, B9.out⟩
          case measure => simp [intOf]; omega
      · have y7 : ((k : Int) == (t : Int)) = false := beq_eq_false_iff_ne.2 (by omega)
        have y8 : (k == t) = false := beq_eq_false_iff_ne.2 hkt
        clear R8 O8 hkt hA h3 h4 HQ XT
        go_wp2
        go_roundw
        case rel => exact ⟨k + 1, by omega, by go_num, B8.out⟩
        case measure => simp [intOf]; omega
    · have y4 : ((nl : Int) + 1 == (nx : Int)) = false := beq_eq_false_iff_ne.2 (by omega)
      have hkt : k ≠ t := fun e => hA (by have h9 : l.length = r.length := congrArg List.length (h4 e); omega)
      have y7 : ((k : Int) == (t : Int)) = false := beq_eq_false_iff_ne.2 (by omega)
      have y8 : (k == t) = false := beq_eq_false_iff_ne.2 hkt
      clear R8 O8 hkt hA h3 h4 HQ XT
      go_wp2
      go_roundw
      case rel => exact ⟨k + 1, by omega, by go_num, B8.out⟩
      case measure => simp [intOf]; omega
theorem w_FnBookRead (a0 : Option Addr) (len0 cap0 : Nat) (z0 : List Int) (w : World) (q0 : IsRow .u8 w a0 len0 cap0 z0) :
    Calls Try.prog 10 #[.slice a0 len0 cap0] w fun e w' => e = .returned (.bool true) ∧ Below w.heap.size w w' := by
  obtain ⟨hA, hc, hm⟩ := q0.bytes
  clear q0
  by_cases hl0 : 1048576 < len0
  · have hd : decide ((1048576 : Int) < (len0 : Int)) = true := by simp; omega
    clear hA
    go_enter Try.func10, Try.ntmps10
    go_wp2
    go_ret
    exact ⟨rfl, Below.refl _ _⟩
  exact y_FnBookRead a0 len0 cap0 w hA (by omega) hc hm
end Go.Proofs.Ytanfhgliilkhjaa
