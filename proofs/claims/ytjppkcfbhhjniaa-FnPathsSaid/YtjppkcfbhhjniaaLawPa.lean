/-
  The walk of FnPasses.
-/
import Derived.Test.YtjppkcfbhhjniaaPathOrL
import Derived.Test.YtjppkcfbhhjniaaPathSel
import Derived.Test.YtjppkcfbhhjniaaVw
namespace Go.Proofs.Ytjppkcfbhhjniaa
open Go.RowKit Go.Deep
set_option linter.unusedVariables false

theorem revD_valid {n : Int} {D : Nat → PD} {m : Nat} (h : pathsV n D m = true) : pathsV n (fun i => D (m - 1 - i)) m = true :=
  pathsV_sel h (fun i => m - 1 - i) (Nat.le_refl _) (fun _ _ => rfl) (fun i hi => by show m - 1 - i < m; omega) (fun i j hi hj hne => by show m - 1 - i ≠ m - 1 - j; omega)
set_option maxRecDepth 100000 in
set_option maxHeartbeats 4000000 in
theorem y_FnPasses (a0 : Option Addr) (len0 cap0 : Nat) (w : World) (hA : BytesAt w.heap.size w a0 len0) (hl : len0 ≤ 1048576) (hc : len0 ≤ cap0) (hm : cap0 ≤ 9223372036854775807) :
    Calls Try.prog 4 #[.slice a0 len0 cap0] w fun e w' => e = .returned (.bool true) ∧ Below w.heap.size w w' := by
  have hAH := Lib.hid hA
  have hd0 : decide ((1048576 : Int) < (len0 : Int)) = false := by simp; omega
  obtain ⟨p0, pi0, pz0, pz1, pz2⟩ := info_parts pathInfo
  have PI := Lib.hid (And.intro pi0 (And.intro pz0 (And.intro pz1 pz2)))
  clear hA pi0 pz0 pz1 pz2
  go_enter Try.func4, Try.ntmps4
  go_wp2_with fail
  refine (d_DrawPathsPasses a0 len0 cap0 w hAH.out hl hc hm).mono ?_
  rintro e wb ⟨n, g, m, c, D, rfl, hn, hm10, hD, hp, hb⟩
  clear hc hm hAH hl hd0
  have HB := Lib.hid hb
  have P0 := Lib.hid hp
  clear hb hp
  cases hpv : pathsV n D m
  · have VV := Lib.hid hpv
    clear hpv
    go_wp2_with fail
    refine (iPasses_no _ m c D n _ P0.out (by omega) VV.out).mono ?_
    rintro e w1 ⟨rfl, hb1⟩
    have P1 := Lib.hid (P0.out.topb hb1)
    go_wp2_with fail
    refine (sPasses_no _ m c D n _ P1.out (by omega) VV.out).mono ?_
    rintro e w2 ⟨rfl, hb2⟩
    have hb2 := bl hb1 (Nat.le_refl _) hb2
    clear hb1 P1
    go_wp2
    go_ret
    exact ⟨rfl, bl HB.out (Nat.le_refl _) hb2⟩
  obtain ⟨s, rfl⟩ : ∃ s, n = s + 1 := ⟨n - 1, by omega⟩
  rw [show ((s + 1 : Nat) : Int) = (s : Int) + 1 by omega] at hpv
  have hm8 : m ≤ 8 := (pathsV_iff.1 hpv).2.2.1
  have PV := Lib.hid hpv
  obtain ⟨P, hP⟩ : ∃ P, passes D m s = P := ⟨_, rfl⟩
  have hPb := pssT_bd D m s hm8 (by omega)
  rw [hP] at hPb
  have hI := fun (W : World) (A : Option Addr) (c : Nat) (h : PsRn W W.heap.size A m D) => iPasses_yes A m c D s W h hpv
  have hS := fun (W : World) (A : Option Addr) (c : Nat) (h : PsRn W W.heap.size A m D) => sPasses_yes A m c D s W h hpv
  have hR := fun (W : World) (A : Option Addr) (c : Nat) (h : PsRn W W.heap.size A m (fun i => D (m - 1 - i))) => iPasses_yes A m c (fun i => D (m - 1 - i)) s W h (revD_valid hpv)
  rw [hP] at hI hS
  rw [passes_rev (own_of hpv), hP] at hR
  have hO0 : ∀ (W : World) (A : Option Addr) (c : Nat), PsRn W W.heap.size A m D → Calls Try.prog 17 #[.int .i64 ((s : Int) + 1), .slice A m c, .int .i64 0] W (OrdOut W (fun i => (D i).f1 0) m) := fun W A c h => (iOrd_yes A m c D ((s : Int) + 1) 0 W h (hasS_yes hpv ⟨by omega, by omega⟩)).mono fun _ _ h => h.ord
  have hO : ∀ t, t < s → ∀ (W : World) (A : Option Addr) (c : Nat), PsRn W W.heap.size A m D → Calls Try.prog 17 #[.int .i64 ((s : Int) + 1), .slice A m c, .int .i64 ((t : Int) + 1)] W (OrdOut W (fun i => (D i).f1 (t + 1)) m) := fun t ht W A c h => by
    have := iOrd_yes A m c D ((s : Int) + 1) (t + 1) W h (hasS_yes hpv ⟨by omega, by omega⟩)
    rw [show ((t + 1 : Nat) : Int) = (t : Int) + 1 by omega] at this
    exact this.mono fun _ _ h => h.ord
  have hZ := passes_ord (own_of hpv)
  rw [hP] at hZ
  have I := Lib.hid hI
  have S := Lib.hid hS
  have R := Lib.hid hR
  have O0 := Lib.hid hO0
  have O := Lib.hid hO
  have Z := Lib.hid hZ
  have db : decide (P < 0) = false := decide_eq_false (by omega)
  clear hpv hI hS hR hO0 hO hP hZ
  go_wp2_with fail
  refine (I.out _ _ _ P0.out).mono ?_
  rintro e w1 ⟨rfl, hb1⟩
  have P1 := Lib.hid (P0.out.topb hb1)
  go_wp2_with fail
  refine (S.out _ _ _ P1.out).mono ?_
  rintro e w2 ⟨rfl, hb2⟩
  have P2 := Lib.hid (P1.out.topb hb2)
  have hbw := bl hb1 (Nat.le_refl _) hb2
  clear hb1 hb2 P1 P0 I S
  go_wp2_with fail
  refine (O0.out _ _ _ P2.out).mono ?_
  rintro e w3 ⟨g1, c1, rfl, hg1, ho1, hb3⟩
  have P3 := Lib.hid (P2.out.topb hb3)
  have hb3 := bl hbw (Nat.le_refl _) hb3
  have HB3 := Lib.hid (bl HB.out (Nat.le_refl _) hb3)
  have O1 := Lib.hid ho1
  clear ho1 hbw P2 HB O0 hb3
  go_wp2_with fail
  go_loopw [7, 10] (fun v i wr => ∃ (t : Nat) (bb : Bool), t ≤ s ∧ i = .int .i64 ((t : Int) + 1) ∧ v = .bool bb ∧ Hid (bb = true ↔ ∀ u, u < t → ordN (fun i => (D i).f1 (u + 1)) m = ordN (fun i => (D i).f1 0) m) ∧ Below w3.heap.size w3 wr) (fun _ i _ => (s + 1 - intOf i).toNat)
  case atStart => exact ⟨0, true, Nat.zero_le _, rfl, rfl, ⟨fun _ u hu => absurd hu (by omega), fun _ => rfl⟩, Below.refl _ _⟩
  case round =>
    obtain ⟨t, bb, ht, rfl, rfl, hbb, hb⟩ := hrel
    have hg1w : g1 < wr.heap.size := by have := hb.size; omega
    have P4 := Lib.hid (P3.out.topb hb)
    have O4 := Lib.hid (O1.out.call hb)
    by_cases hlt : t < s
    · go_wp2_with fail
      refine (O.out t hlt _ _ _ P4.out).mono ?_
      rintro e w4 ⟨g4, c4, rfl, hg4, ho4, hb4⟩
      have hbn : Below w3.heap.size w3 w4 := bl hb (Nat.le_refl _) hb4
      cases bb
      · have hn2 : Hid (false = true ↔ ∀ u, u < t + 1 → ordN (fun i => (D i).f1 (u + 1)) m = ordN (fun i => (D i).f1 0) m) := ⟨fun h => (by cases h), fun h => hbb.out.2 fun u hu => h u (by omega)⟩
        clear ho4 hb hb4 hbb P4 O4
        go_wp2
        go_roundw
        case rel => exact ⟨t + 1, false, by omega, by go_num, rfl, hn2, hbn⟩
        case measure => simp [intOf]; omega
      · have hs4 := hb4.size
        have SI := sameI (some ⟨g4, 0, none⟩) m c4 _ (some ⟨g1, 0, none⟩) m c1 _ w4 (ho4.rn hg4.2) ((O4.out.call hb4).rn (by omega)) (by omega) (by omega)
        obtain ⟨v, hv⟩ : ∃ v, decide (ordN (fun i => (D i).f1 (t + 1)) m = ordN (fun i => (D i).f1 0) m) = v := ⟨_, rfl⟩
        rw [ord_eqI, hv] at SI
        have hn2 : Hid (v = true ↔ ∀ u, u < t + 1 → ordN (fun i => (D i).f1 (u + 1)) m = ordN (fun i => (D i).f1 0) m) := by
          show _ ↔ _
          rw [← hv, decide_eq_true_iff]
          refine ⟨fun h u hu => ?_, fun h => h t (by omega)⟩
          by_cases e : u = t
          · subst e; exact h
          · exact hbb.out.1 rfl u (by omega)
        have SI := Lib.hid SI
        clear ho4 hb hb4 hbb P4 O4 hv
        go_wp2_with fail
        refine SI.out.mono ?_
        rintro e w5 ⟨rfl, q, rfl⟩
        have hbn2 : Below w3.heap.size w3 (w4.drewN q) := below_dn hbn q
        go_wp2
        go_roundw
        case rel => exact ⟨t + 1, v, by omega, by go_num, rfl, hn2, hbn2⟩
        case measure => simp [intOf]; omega
    · obtain rfl : t = s := by omega
      have hbe : (P == 0) = bb := by
        cases bb
        · exact beq_eq_false_iff_ne.2 fun e => by have := hbb.out.2 (Z.out.1 e); cases this
        · exact beq_iff_eq.2 (Z.out.2 (hbb.out.1 rfl))
      have HBr := Lib.hid (bl HB3.out (Nat.le_refl _) hb)
      have V0 := Vw.new0 wr 31 wr.heap.size (fun i => D (m - 1 - i)) (Nat.le_refl _)
      clear hb O4 hbb O1 P3 O HB3 Z
      obtain ⟨wo, rfl⟩ : ∃ wo : World, wo = wr := ⟨_, rfl⟩
      go_wp2_with fail
      go_loopw [13, 14] (fun v i wr => ∃ (j k gB cB : Nat), j + k = m ∧ i = .int .i64 ((j : Int) - 1) ∧ v = .slice (some ⟨gB, 0, none⟩) k cB ∧ Vw wr 31 wo.heap.size gB k cB (fun i => D (m - 1 - i)) ∧ Below wo.heap.size wo wr) (fun _ i _ => (intOf i + 1).toNat)
      case atStart => exact ⟨m, 0, _, _, rfl, rfl, rfl, V0, by go_grown⟩
      case round =>
        clear V0
        obtain ⟨j, k, gB, cB, hjk, hi, rfl, hV, hb⟩ := hrel
        have hsz := hb.size
        rcases j with _ | j
        · obtain rfl : k = m := by omega
          obtain rfl : _ = Value.int .i64 (-1) := hi
          have HBr2 := Lib.hid (bl HBr.out (Nat.le_refl _) hb)
          have PB := Lib.hid hV.rn
          clear hV hb
          go_wp2_with fail
          refine (R.out _ _ _ PB.out).mono ?_
          rintro e w6 ⟨rfl, hb6⟩
          have HB6 := Lib.hid (bl HBr2.out (Nat.le_refl _) hb6)
          clear hb6
          go_wp2
          go_ret
          exact ⟨by simp, HB6.out⟩
        · rw [show ((j + 1 : Nat) : Int) - 1 = (j : Int) by omega] at hi
          subst hi
          have hjm : j < m := by omega
          obtain ⟨a1, k1, a2, k2, n1, f1, n2, f2, hD1, x0, x1, r1, r2⟩ := psRn_at0 P4.out hjm
          have x0 := (hb.cell (p := ⟨g, j * 2, none⟩) (by obtain ⟨b, off, e, hbb, _⟩ := P4.out (by omega); simp only [Option.some.injEq, Addr.mk.injEq, and_true] at e; simp; omega)).trans x0
          have x1 := (hb.cell (p := ⟨g, j * 2 + 1, none⟩) (by obtain ⟨b, off, e, hbb, _⟩ := P4.out (by omega); simp only [Option.some.injEq, Addr.mk.injEq, and_true] at e; simp; omega)).trans x1
          have eD : D (m - 1 - k) = ⟨n1, f1, n2, f2⟩ := by rw [show m - 1 - k = j by omega]; exact hD1
          have j0 : (0 : Int) ≤ (j : Int) := by omega
          have j1 : (j : Int) < (m : Int) := by omega
          have hlt := hV.lt
          obtain ⟨xs, ho, hx⟩ := hV
          have hcp := owns_cap ho
          have HO := Lib.hid (ho.alloc (.cells #[.slice a1 n1 k1, .slice a2 n2 k2] 31))
          have HX := Lib.hid (hx.keep (w' := wr) (fun _ _ => rfl))
          have R1 := Lib.hid (r1.below hb)
          have R2 := Lib.hid (r2.below hb)
          have HBw := Lib.hid hb
          obtain ⟨pi0, pz0, pz1, pz2⟩ := PI.out
          clear ho hx r1 r2 hb
          go_wp2_with (at_builtin; refine wpList_append_lies _ rfl _ _ _ rfl wo.heap.size 31 p0 (.agg #[.slice none 0 0, .slice none 0 0]) 2 48 Try.underlying23 pi0 pz0 pz1 pz2 rfl (by omega) (.slice (some ⟨gB, 0, none⟩) k cB) k xs rfl HO.out ⟨wr.heap.size, 0, none⟩ 1 1 [.slice a1 n1 k1, .slice a2 n2 k2] rfl rfl ?d1 (one2 _ _ _ _ _ _) (by omega) ?d3 ?d4 ?d5 (wr.heap.size + 1) ?d6 ?_)
          try case d1 => exact World.news_of_block (cs := #[.slice a1 n1 k1, .slice a2 n2 k2]) (t := 31) (fr := (0, 0)) (heap_alloc_new wr _)
          case d3 => unfold maxLen; omega
          case d4 => omega
          case d5 => first | omega | (simp; omega)
          try case d6 => simp
          intro g6 k6 w6 hown6 hg6 hat6 hlt6
          have hg6 : (wr.alloc (.cells #[.slice a1 n1 k1, .slice a2 n2 k2] 31)).grownBy w6 (some gB) := hg6
          have hV6 := Vw.put HX.out R1.out R2.out hown6 (fun b hb' => (hg6.block b (by simp; omega) (fun e => by injection e; omega)).trans (blk_alloc_lt _ _ _ (by omega)))
          have hb6 : Below wo.heap.size wo w6 := (show Below wo.heap.size wo (wr.alloc (.cells #[.slice a1 n1 k1, .slice a2 n2 k2] 31)) from HBw.out.alloc hsz _).grown hg6 (by simp; omega) (fun k e => by injection e with e; omega)
          have HV6 := Lib.hid (hV6.congr (E := fun i => D (m - 1 - i)) fun i hi => by
            by_cases e : i = k
            · subst e; rw [addD_at, ← hD1]; congr 1; omega
            · rw [addD_lt (by omega)])
          have HB6 := Lib.hid hb6
          clear hown6 hg6 hV6 hb6 HO HX R1 R2 x0 x1 HBw pi0 pz0 pz1 pz2
          go_wp2_with fail
          go_roundw
          case rel => exact ⟨j, k + 1, g6, k6, by omega, rfl, rfl, HV6.out, HB6.out⟩
          case measure => simp [intOf]
theorem w_FnPasses (a0 : Option Addr) (len0 cap0 : Nat) (z0 : List Int) (w : World) (w0 : IsRow .u8 w a0 len0 cap0 z0) :
    Calls Try.prog 4 #[.slice a0 len0 cap0] w fun e w' => e = .returned (.bool true) ∧ Below w.heap.size w w' := by
  obtain ⟨hA, hc, hm⟩ := w0.bytes
  by_cases hs0 : 1048576 < len0
  · have hd0 : decide ((1048576 : Int) < (len0 : Int)) = true := by simp; omega
    clear w0 hA
    go_enter Try.func4, Try.ntmps4
    go_wp2
    go_ret
    exact ⟨rfl, Below.refl _ _⟩
  · exact y_FnPasses a0 len0 cap0 w hA (by omega) hc hm
end Go.Proofs.Ytjppkcfbhhjniaa
