/-
  Contract of the reference's BookRead.
-/
import Derived.Test.YtanfhgliilkhjaaBkW
namespace Go.Proofs.Ytanfhgliilkhjaa
open Go.RowKit Go.Deep
set_option linter.unusedVariables false

/-- The fewest codes while place q is the last one done. -/
def gF (E : LD) (D : Nat → LD) (m q : Nat) (j : Nat) : Int := if q ≤ j then (few E D m (E.n - j) : Int) else 0
theorem row_grown {w w' : World} {g r T n : Nat} {F : Nat → Int} (h : w.rowIs g T n (fun j => .int .i64 (F j))) (hg : w.grownBy w' (some r)) (hr : g ≠ r) : w'.rowIs g T n (fun j => .int .i64 (F j)) :=
  row_of h (hg.block g (World.rowIs.lt h) (fun e => hr (by injection e)))
set_option maxRecDepth 100000 in
set_option maxHeartbeats 8000000 in
theorem sRead (A : Option Addr) (m c : Nat) (D : Nat → LD) (R : Option Addr) (d : Nat) (E : LD) (w : World) (h : SsRn w w.heap.size A m D) (hm : m ≤ 1048576) (hD : ∀ i, i < m → (D i).n ≤ 1048576)
    (hR : Rn w w.heap.size R E.n E.f) (hn : E.n ≤ 1048576) (hd : E.n ≤ d) (hd2 : d ≤ maxLen) (ok : Bool) (xs : List Int) (hv : Hid (ReadV E D m ok xs)) :
    Calls Try.prog 44 #[.slice A m c, .slice R E.n d] w (RingRes w ok xs) := by
  obtain ⟨i0, ji0, jz0, jz1, jz2⟩ := info_parts intInfo
  have J := Lib.hid (And.intro ji0 (And.intro jz0 (And.intro jz1 jz2)))
  have W0 := Lib.hid (World.ownsRow_made (base := w.heap.size) (size := 1) (e := 3) w #[] 0 (Nat.le_refl _) (by unfold maxLen; omega) (by simp))
  have S0 := Lib.hid (h.top (.cells #[] 3))
  have R0 := Lib.hid (hR.top (.cells #[] 3))
  have H := Lib.hid h
  have HR := Lib.hid hR
  have HB0 := Lib.hid (show Below w.heap.size w (w.alloc (.cells #[] 3)) by go_grown)
  have hres : ∃ vr : Int, ((ringB E D m ∧ vr = (ways E D m E.n : Int)) ∨ (¬ ringB E D m ∧ vr = -1)) ∧ ((readV E D m ∧ ¬ vr < 1) ∨ (¬ readV E D m ∧ vr < 1)) := by
    rcases Classical.em (ringB E D m) with hb | hb
    · refine ⟨_, .inl ⟨hb, rfl⟩, ?_⟩
      have hw := ways_few (e := E) (D := D) (m := m) E.n (by have := hb.2.1; omega)
      rcases Classical.em (few E D m E.n < 1000) with hf | hf
      · have := hw.2 hf
        exact .inl ⟨⟨hb, hf⟩, by omega⟩
      · have : ¬ 1 ≤ ways E D m E.n := fun x => hf (hw.1 x)
        exact .inr ⟨fun x => hf x.2, by omega⟩
    · exact ⟨-1, .inr ⟨hb, rfl⟩, .inr ⟨fun x => hb x.1, by omega⟩⟩
  obtain ⟨vr, hvr, hcase⟩ := hres
  have HG := Lib.hid (sReadings A m c D R d E _ S0.out hm hD R0.out hn hd hd2 vr hvr)
  clear h hD hR ji0 jz0 jz1 jz2 hvr S0 R0
  go_enter Try.func44, Try.ntmps44
  go_wp2_with fail
  refine HG.out.mono ?_
  rintro e w1 ⟨rfl, hb⟩
  have sz1 := hb.size
  simp at sz1
  have B1 := Lib.hid (bl HB0.out (Nat.le_refl _) hb)
  have O1 := Lib.hid (owns_call W0.out hb)
  clear hb HG HB0 W0
  rcases hcase with ⟨hrv, hlt⟩ | ⟨hrv, hlt⟩
  rotate_left
  · have d1 : decide (vr < 1) = true := decide_eq_true (by omega)
    obtain ⟨rfl, rfl⟩ := hv.out.no hrv
    clear hlt hrv O1
    go_wp2
    go_ret2
    exact ringRes_nil (Nat.le_refl _) (by omega) B1.out
  have d1 : decide (vr < 1) = false := decide_eq_false (by omega)
  obtain ⟨rfl, rfl⟩ := hv.out.yes hrv
  have RV := Lib.hid hrv
  have HP := Lib.hid hrv.1.1
  have hn20 : E.n ≤ 20 := hrv.1.2.1
  have hm10 : m ≤ 10 := hrv.1.1.1
  have hmk := run_make_row' (P := Try.prog) 23 3 (.int .i64 0) 8 Try.underlying23 intInfo rfl .i64 .i64 (E.n + 1) (by omega) (by omega)
  have hcn : ((E.n + 1 : Nat) : Int) = (E.n : Int) + 1 := by omega
  rw [hcn] at hmk
  have hrow := World.rowIs_made w1 (.int .i64 0) (E.n + 1) 3
  have HR0 := Lib.hid (row_congr (F := fun _ => 0) (G := gF E D m E.n) hrow (fun j hj => by
    unfold gF
    by_cases e : j = E.n
    · rw [if_pos (by omega), e, show E.n - E.n = 0 by omega, few_zero]; rfl
    · rw [if_neg (by omega)]))
  have hog := O1.out.lt w.heap.size rfl
  have O2 := Lib.hid (O1.out.alloc (.cells (madeCells #[.int .i64 0] (E.n + 1)) 3))
  clear hrow hlt hrv hv
  go_wp2_with fail
  obtain ⟨g, hg⟩ : ∃ g, w1.heap.size = g := ⟨_, rfl⟩
  have hg' : (w1.alloc (.cells (madeCells #[.int .i64 0] (E.n + 1)) 3)).heap.size = g + 1 := by simp [hg]
  rw [hg]
  have G0 := Lib.hid hg
  have hwg : w.heap.size < g := by omega
  clear hg
  go_loopw [8] (fun i wr => ∃ p : Nat, p ≤ E.n ∧ i = .int .i64 ((p : Int) - 1) ∧ Hid (wr.rowIs g 3 (E.n + 1) (fun j => .int .i64 (gF E D m p j))) ∧ Hid (Below w1.heap.size w1 wr)) (fun i _ => (intOf i + 1).toNat)
  case atStart => exact ⟨E.n, Nat.le_refl _, by go_num, by have h9 := HR0.out; rw [G0.out] at h9; exact h9, by show Below _ _ _; go_grown⟩
  case round =>
    obtain ⟨p, hp, rfl, hB, hb⟩ := hrel
    clear HR0 hmk O2
    cases p with
    | succ p =>
      have hpp : ((p + 1 : Nat) : Int) - 1 = (p : Int) := by omega
      obtain ⟨K, hK⟩ : ∃ K, E.n = p + K := ⟨E.n - p, by omega⟩
      have hK1 : 1 ≤ K := by omega
      have hKa : p + K ≤ E.n := by omega
      have hKb : E.n ≤ p + K := by omega
      have HK := Lib.hid hK
      clear hK
      have hrr := hB.out
      have hc0 := World.rowIs.cell hrr (show p < E.n + 1 by omega)
      have hfz0 := World.rowIs.frozen hrr p
      have BP : Hid ((wr.setCell ⟨g, p, none⟩ (.int .i64 1000)).rowIs g 3 (E.n + 1) (fun j => .int .i64 (if j = p then ((mnF E D K (few E D m) 0 : Nat) : Int) else gF E D m (p + 1) j))) := row_congr (row_set hrr p 1000) (fun j hj => by
        by_cases e : j = p
        · rw [if_pos e, if_pos e]; rfl
        · rw [if_neg e, if_neg e])
      have p0 : (0 : Int) ≤ (p : Int) := by omega
      have p1 : (p : Int) < (E.n : Int) + 1 := by omega
      rw [hpp]
      have HBW : Hid (Below w1.heap.size w1 (wr.setCell ⟨g, p, none⟩ (.int .i64 1000))) := by show Below _ _ _; have h9 := hb.out; have hg9 := G0.out; go_grown
      clear hB hb hrr
      go_wp2_with fail
      go_loopw [9] (fun i wq => ∃ j : Nat, j ≤ m ∧ i = .int .i64 j ∧ Hid (wq.rowIs g 3 (E.n + 1) (fun x => .int .i64 (if x = p then ((mnF E D K (few E D m) j : Nat) : Int) else gF E D m (p + 1) x))) ∧ Hid (Below w1.heap.size w1 wq)) (fun i _ => (m - intOf i).toNat)
      case atStart => exact ⟨0, Nat.zero_le _, rfl, BP.out, HBW.out⟩
      case round =>
        clear BP HBW hc0 hfz0
        obtain ⟨j, hj, rfl, hB, hb⟩ := hrel
        have hsz := hb.out.size
        have hgl := World.rowIs.lt hB.out
        have hbw := bl B1.out (Nat.le_refl _) hb.out
        have hszw := hbw.size
        have HBW := Lib.hid hbw
        clear hbw
        by_cases hlt : j < m
        · obtain ⟨b, off, a1, c1, n1, f1, rfl, hbB, hDj, x0, r1⟩ := (H.out.below HBW.out).at_ hlt
          have hcd := (HP.out.2 j hlt).1
          have hS : mnF E D K (few E D m) (j + 1) = if stAt E (E.n - K) (D j) then min (mnF E D K (few E D m) j) (few E D m (K - max 1 (D j).n) + 1) else mnF E D K (few E D m) j := rfl
          have hmn := mnF_le E D K (few E D m) j
          rw [hDj] at hcd hS
          have hn1 : 1 ≤ n1 ∧ n1 ≤ 5 := hcd.1
          have hmx : max 1 n1 = n1 := by omega
          have hKp : E.n - K = p := by omega
          rw [hKp] at hS
          simp only [hmx] at hS
          have RR := Lib.hid ((HR.out.below HBW.out).up hszw)
          have RA := Lib.hid (r1.up hszw)
          have j0 : (0 : Int) ≤ (j : Int) := by omega
          have j1 : (j : Int) < (m : Int) := by omega
          obtain ⟨S, hSe⟩ : ∃ S, mnF E D K (few E D m) j = S := ⟨_, rfl⟩
          obtain ⟨S2, hSe2⟩ : ∃ S2, mnF E D K (few E D m) (j + 1) = S2 := ⟨_, rfl⟩
          rw [hSe] at hS hmn
          rw [hSe2] at hS
          have HSe := Lib.hid hSe
          have HSe2 := Lib.hid hSe2
          clear hSe hSe2 hcd hDj r1
          by_cases hs : stAt E p ⟨n1, f1⟩
          · rw [if_pos hs] at hS
            have HA := Lib.hid (fun (W : World) (x : Rn W W.heap.size R E.n E.f) (y : Rn W W.heap.size a1 n1 f1) => sAt R d E p a1 c1 ⟨n1, f1⟩ W x y (by omega) (by simp only []; omega) (by omega) hd hd2 hn1.1 true ⟨fun _ => hs, fun _ => rfl⟩)
            have hnk : p + n1 ≤ E.n := hs.1
            have hfl := few_le E D m (K - n1)
            obtain ⟨y, hy⟩ : ∃ y, few E D m (K - n1) = y := ⟨_, rfl⟩
            have hrr := hB.out
            have hc1 := World.rowIs.cell hrr (show p < E.n + 1 by omega)
            have hc2 := World.rowIs.cell hrr (show p + n1 < E.n + 1 by omega)
            have hfz := World.rowIs.frozen hrr p
            rw [if_pos rfl, HSe.out] at hc1
            rw [if_neg (by omega)] at hc2
            have hgw : gF E D m (p + 1) (p + n1) = (y : Int) := by unfold gF; rw [if_pos (by omega), show E.n - (p + n1) = K - n1 by omega, hy]
            rw [hgw] at hc2
            rw [hy] at hS hfl
            have NR := Lib.hid (fun (q : Nat) (z : Int) (hz : z = ((S2 : Nat) : Int)) => row_congr (G := fun x => if x = p then ((mnF E D K (few E D m) (j + 1) : Nat) : Int) else gF E D m (p + 1) x) (row_set (w := wr.drewN q) hrr p z) (fun x hx => by
              by_cases e : x = p
              · rw [if_pos e, if_pos e, HSe2.out, hz]
              · rw [if_neg e, if_neg e, if_neg e]))
            have HS2 := Lib.hid hS
            have q0 : (0 : Int) ≤ (p : Int) + (n1 : Int) := by omega
            have q1 : (p : Int) + (n1 : Int) < (E.n : Int) + 1 := by omega
            have htn2 : ((p : Int) + (n1 : Int)).toNat = p + n1 := by omega
            have hne : b ≠ g := by omega
            have yw1 : IntKind.i64.wrap ((p : Int) + (n1 : Int)) = (p : Int) + (n1 : Int) := IntWalk.i64_in _ (by omega)
            have yw2 : IntKind.i64.wrap ((y : Int) + 1) = (y : Int) + 1 := IntWalk.i64_in _ (by omega)
            clear hs hrr hgw hy hB hS
            go_wp2_with fail
            refine (HA.out _ RR.out RA.out).mono ?_
            rintro e w3 ⟨rfl, q, rfl⟩
            go_wp2_with fail
            go_region
            go_wp2
            go_roundw
            case rel => exact ⟨j + 1, by omega, by go_num, NR.out _ _ (by rw [HS2.out]; split <;> omega), by show Below _ _ _; have h9 := below_dn hb.out (q + 1); have hg9 := G0.out; go_grown⟩
            case measure => simp [intOf]; omega
          · rw [if_neg hs] at hS
            have HA := Lib.hid (fun (W : World) (x : Rn W W.heap.size R E.n E.f) (y : Rn W W.heap.size a1 n1 f1) => sAt R d E p a1 c1 ⟨n1, f1⟩ W x y (by omega) (by simp only []; omega) (by omega) hd hd2 hn1.1 false ⟨fun x => (by cases x), fun x => absurd x hs⟩)
            have NR : Hid (wr.rowIs g 3 (E.n + 1) (fun x => .int .i64 (if x = p then ((mnF E D K (few E D m) (j + 1) : Nat) : Int) else gF E D m (p + 1) x))) := row_congr hB.out (fun x hx => by
              by_cases e : x = p
              · rw [if_pos e, if_pos e, HSe.out, HSe2.out]; omega
              · rw [if_neg e, if_neg e])
            clear hs hB hS
            go_wp2_with fail
            refine (HA.out _ RR.out RA.out).mono ?_
            rintro e w3 ⟨rfl, q, rfl⟩
            go_wp2
            go_roundw
            case rel => exact ⟨j + 1, by omega, by go_num, NR.out, below_dn hb.out _⟩
            case measure => simp [intOf]; omega
        · obtain rfl : j = m := by omega
          have HN : Hid (wr.rowIs g 3 (E.n + 1) (fun x => .int .i64 (gF E D j p x))) := row_congr hB.out (fun x hx => by
            unfold gF
            by_cases e : x = p
            · rw [if_pos e, if_pos (by omega), ← few_pos (by omega), e, show E.n - p = K by omega]
            · rw [if_neg e]
              by_cases e2 : p + 1 ≤ x
              · rw [if_pos e2, if_pos (by omega)]
              · rw [if_neg e2, if_neg (by omega)])
          clear hB
          go_wp2
          go_roundw
          case rel => exact ⟨p, by omega, by go_num, HN.out, hb.out⟩
          case measure => first | (simp [intOf]; done) | (simp [intOf]; omega)
    | zero =>
      rename World => X
      have hp0 : ((0 : Nat) : Int) - 1 = -1 := by omega
      rw [hp0]
      have BX := Lib.hid (bl B1.out (Nat.le_refl _) hb.out)
      have OX := Lib.hid (owns_call O1.out hb.out)
      have FX := Lib.hid hB.out
      have hgX := World.rowIs.lt hB.out
      clear hB hb
      go_wp2_with fail
      go_loopw [6, 10] (fun v i wx => ∃ (p K z g2 cp : Nat) (l : List Nat), p ≤ E.n ∧ Hid (E.n = p + K) ∧ i = .int .i64 p ∧ v = .slice (some ⟨g2, 0, none⟩) z cp ∧ z ≤ p ∧ g2 ≠ g ∧ Hid (l.length = z) ∧ Hid (few E D m K < 1000 ∧ rdg E D m E.n = l ++ rdg E D m K) ∧
        Hid (wx.ownsRow w.heap.size 3 1 (.slice (some ⟨g2, 0, none⟩) z cp) z (ints (natI l))) ∧ Hid (wx.rowIs g 3 (E.n + 1) (fun j => .int .i64 (gF E D m 0 j))) ∧ Hid (Below w.heap.size w wx)) (fun _ i _ => (E.n - intOf i).toNat)
      case atStart => exact ⟨0, E.n, 0, _, _, [], Nat.zero_le _, (by show _ = _; omega), rfl, rfl, Nat.le_refl _, by omega, rfl, ⟨RV.out.2, rfl⟩, OX.out, FX.out, BX.out⟩
      case round =>
        clear OX FX BX
        obtain ⟨p, K, z, g2, cp, l, hp, HK, rfl, rfl, hz, hgg, hL, hY, hO, hF, hb⟩ := hrel
        have hgl2 := hO.out.lt g2 rfl
        have hcp := owns_cap hO.out
        have hszx := hb.out.size
        have hgl := World.rowIs.lt hF.out
        have hKa : p + K ≤ E.n := by have : E.n = p + K := HK.out; omega
        have hKb : E.n ≤ p + K := by have : E.n = p + K := HK.out; omega
        have hKp : E.n - K = p := by omega
        by_cases hlt : p < E.n
        · obtain ⟨hfk, hrd⟩ := hY.out
          obtain ⟨q1, q2, q3, q4⟩ := ix_spec (by omega) hfk
          have hrp := rdg_pos (e := E) (D := D) (m := m) (k := K) (by omega)
          obtain ⟨t, ht⟩ : ∃ t, ix E D m K = t := ⟨_, rfl⟩
          rw [ht] at q1 q2 q3 q4 hrp
          rw [hKp] at q2 q4
          have RD := Lib.hid hrd
          have RP := Lib.hid hrp
          have Q2 := Lib.hid q2
          have Q3 := Lib.hid q3
          have Q4 := Lib.hid q4
          have HFK := Lib.hid hfk
          have p0 : (0 : Int) ≤ (p : Int) := by omega
          have p1 : (p : Int) < (E.n : Int) + 1 := by omega
          clear hfk hrd hrp q2 q3 q4 ht
          go_wp2_with fail
          go_loopw [11] (fun i wq => ∃ j : Nat, j ≤ t ∧ i = .int .i64 j ∧ Hid (∃ q, wq = wr.drewN q)) (fun i _ => (t - intOf i).toNat)
          case atStart => exact ⟨0, Nat.zero_le _, rfl, 0, rfl⟩
          case round =>
            rename World => wq
            obtain ⟨j, hj, rfl, hq⟩ := hrel
            have htm : j < m := by omega
            have HWQ : Hid (Below w.heap.size w wq) := by obtain ⟨q, rfl⟩ := hq.out; exact below_dn hb.out q
            have FQ : Hid (wq.rowIs g 3 (E.n + 1) (fun j => .int .i64 (gF E D m 0 j))) := by obtain ⟨q, rfl⟩ := hq.out; exact hF.out
            have hszq := HWQ.out.size
            obtain ⟨b, off, a1, c1, n1, f1, rfl, hbB, hDj, x0, r1⟩ := (H.out.below HWQ.out).at_ htm
            have hcd := (HP.out.2 j htm).1
            rw [hDj] at hcd
            have hn1 : 1 ≤ n1 ∧ n1 ≤ 5 := hcd.1
            have hmx : max 1 n1 = n1 := by omega
            have RR := Lib.hid ((HR.out.below HWQ.out).up hszq)
            have RA := Lib.hid (r1.up hszq)
            have DJ := Lib.hid hDj
            have j0 : (0 : Int) ≤ (j : Int) := by omega
            have j1 : (j : Int) < (m : Int) := by omega
            clear hcd hDj r1
            by_cases hs : stAt E p ⟨n1, f1⟩
            rotate_left
            · have hjt : j < t := by
                rcases Nat.lt_or_ge j t with x | x
                · exact x
                · obtain rfl : j = t := by omega
                  exact absurd (by rw [← DJ.out]; exact Q2.out) hs
              have HA := Lib.hid (fun (z : Nat) => sAt R d E p a1 c1 ⟨n1, f1⟩ (wq.drewN z) RR.out RA.out (by omega) (by simp only []; omega) (by omega) hd hd2 hn1.1 false ⟨fun x => (by cases x), fun x => absurd x hs⟩)
              clear hs
              go_wp2_with fail
              go_quiet (first | (go_at_call 79; exact Calls.quiet_of (HA.out _)))
              go_wp2
              go_roundw
              case rel => exact ⟨j + 1, by omega, by go_num, by obtain ⟨q, rfl⟩ := hq.out; exact ⟨_, World.drewN_drewN _ _ _⟩⟩
              case measure => simp [intOf]; omega
            have HA := Lib.hid (fun (z : Nat) => sAt R d E p a1 c1 ⟨n1, f1⟩ (wq.drewN z) RR.out RA.out (by omega) (by simp only []; omega) (by omega) hd hd2 hn1.1 true ⟨fun _ => hs, fun _ => rfl⟩)
            have hnk : p + n1 ≤ E.n := hs.1
            have hfl := few_le E D m (K - n1)
            obtain ⟨y, hy⟩ : ∃ y, few E D m (K - n1) = y := ⟨_, rfl⟩
            obtain ⟨fK, hfK⟩ : ∃ fK, few E D m K = fK := ⟨_, rfl⟩
            have hc1 := World.rowIs.cell FQ.out (show p < E.n + 1 by omega)
            have hc2 := World.rowIs.cell FQ.out (show p + n1 < E.n + 1 by omega)
            have hg1 : gF E D m 0 p = (fK : Int) := by unfold gF; rw [if_pos (by omega), show E.n - p = K by omega, hfK]
            have hg2 : gF E D m 0 (p + n1) = (y : Int) := by unfold gF; rw [if_pos (by omega), show E.n - (p + n1) = K - n1 by omega, hy]
            rw [hg1] at hc1
            rw [hg2] at hc2
            have r0 : (0 : Int) ≤ (p : Int) + (n1 : Int) := by omega
            have r1 : (p : Int) + (n1 : Int) < (E.n : Int) + 1 := by omega
            have htn2 : ((p : Int) + (n1 : Int)).toNat = p + n1 := by omega
            have yw1 : IntKind.i64.wrap ((p : Int) + (n1 : Int)) = (p : Int) + (n1 : Int) := IntWalk.i64_in _ (by omega)
            have yw2 : IntKind.i64.wrap ((y : Int) + 1) = (y : Int) + 1 := IntWalk.i64_in _ (by omega)
            have FY := Lib.hid hy
            have FK := Lib.hid hfK
            clear hg1 hg2 hy hfK
            by_cases hjt : j < t
            · have hne : fK < y + 1 := by
                have := Q4.out j hjt (by rw [DJ.out]; exact hs)
                rw [DJ.out] at this
                simp only [hmx] at this
                rw [FY.out, FK.out] at this
                exact this
              have dn : ((y : Int) + 1 != (fK : Int)) = true := bne_iff_ne.2 (by omega)
              clear hs hne
              go_wp2_with fail
              go_quiet (first | (go_at_call 79; exact Calls.quiet_of (HA.out _)))
              go_wp2
              go_roundw
              case rel => exact ⟨j + 1, by omega, by go_num, by obtain ⟨q, rfl⟩ := hq.out; exact ⟨_, World.drewN_drewN _ _ _⟩⟩
              case measure => simp [intOf]; omega
            · obtain rfl : j = t := by omega
              have heq : y + 1 = fK := by
                have := Q3.out
                rw [DJ.out] at this
                simp only [hmx] at this
                rw [FY.out, FK.out] at this
                exact this
              have dn : ((y : Int) + 1 != (fK : Int)) = false := eq_lit (by omega)
              have OQ : Hid (wq.ownsRow w.heap.size 3 1 (.slice (some ⟨g2, 0, none⟩) z cp) z (ints (natI l))) := by obtain ⟨q, rfl⟩ := hq.out; exact hO.out
              have hgq : g2 < wq.heap.size := by obtain ⟨q, rfl⟩ := hq.out; exact hgl2.2
              have hgq2 : g < wq.heap.size := World.rowIs.lt FQ.out
              have hnK : n1 ≤ K := by omega
              clear hs heq hF hO hb hq
              go_wp2_with fail
              go_quiet (first | (go_at_call 79; exact Calls.quiet_of (HA.out _)))
              obtain ⟨ji0, jz0, jz1, jz2⟩ := J.out
              have O3 := Lib.hid (World.ownsRow.alloc (w := wq.drewN nq) OQ.out (.cells #[.int .i64 (j : Int)] 3))
              go_wp2_with (at_builtin; refine wpList_append_lies _ rfl _ _ _ rfl w.heap.size 3 i0 (.int .i64 0) 1 8 Try.underlying23 ji0 jz0 jz1 jz2 rfl (by omega) (.slice (some ⟨g2, 0, none⟩) z cp) z _ rfl O3.out ⟨wq.heap.size, 0, none⟩ 1 1 [.int .i64 (j : Int)] rfl rfl ?d1 (by simp [Value.oneCell']) (by omega) ?d3 ?d4 ?d5 (wq.heap.size + 1) ?d6 ?_)
              try case d1 => exact World.news_of_block (cs := #[.int .i64 (j : Int)]) (t := 3) (fr := (0, 0)) (heap_alloc_new (wq.drewN nq) _)
              case d3 => unfold maxLen; omega
              case d4 => omega
              case d5 => first | omega | (simp; omega)
              try case d6 => simp
              intro g6 k6 w6 hown6 hg6 hat6 hlt6
              have hg6 : ((wq.drewN nq).alloc (.cells #[.int .i64 (j : Int)] 3)).grownBy w6 (some g2) := hg6
              have hat6 : g6 = g2 ∨ g6 = wq.heap.size + 1 := by rcases hat6 with h | h; (simp [Value.ownBlock] at h; exact .inl h.symm); exact .inr h
              have hb6 : Hid (Below w.heap.size w w6) := (show Below w.heap.size w ((wq.drewN nq).alloc (.cells #[.int .i64 (j : Int)] 3)) from (below_dn HWQ.out nq).alloc hszq _).grown hg6 (by simp; omega) (fun k e => by injection e with e; omega)
              have HF6 : Hid (w6.rowIs g 3 (E.n + 1) (fun j => .int .i64 (gF E D m 0 j))) := row_grown (row_of FQ.out (blk_alloc_lt (wq.drewN nq) _ _ hgq2)) hg6 (fun e => hgg e.symm)
              have cy6 := (hb6.out.cell (p := ⟨b, off + j, none⟩) hbB).trans ((HWQ.out.cell (p := ⟨b, off + j, none⟩) hbB).symm.trans x0)
              have HO6 : Hid (w6.ownsRow w.heap.size 3 1 (.slice (some ⟨g6, 0, none⟩) (z + 1) k6) (z + 1) (ints (natI (l ++ [j])))) := by
                rw [show ints (natI (l ++ [j])) = ints (natI l) ++ [.int .i64 (j : Int)] by simp [ints, natI]]
                exact hown6
              have hE : Hid (E.n = p + n1 + (K - n1)) := by show _ = _; omega
              have hL2 : Hid ((l ++ [j]).length = z + 1) := by show _ = _; rw [List.length_append, hL.out]; rfl
              have hY2 : Hid (few E D m (K - n1) < 1000 ∧ rdg E D m E.n = (l ++ [j]) ++ rdg E D m (K - n1)) := by
                have h3 := Q3.out
                have h4 := RP.out
                rw [DJ.out] at h3 h4
                simp only [hmx] at h3 h4
                have h5 : few E D m K < 1000 := HFK.out
                exact ⟨by omega, by rw [RD.out, h4, List.append_assoc]; rfl⟩
              have hgg6 : g6 ≠ g := by rcases hat6 with h | h <;> omega
              clear hown6 hg6 O3 OQ FQ HWQ ji0 jz0 jz1 jz2 hat6 hlt6 x0 hc1 hc2 HA
              go_wp2_with fail
              go_roundw
              case rel => exact ⟨p + n1, K - n1, z + 1, g6, k6, l ++ [j], by omega, hE, by go_num, rfl, by omega, hgg6, hL2, hY2, HO6, HF6, hb6⟩
              case measure => first | (simp [intOf]; done) | (simp [intOf]; omega)
        · obtain rfl : K = 0 := by omega
          have hrd := hY.out.2
          rw [rdg_zero, List.append_nil] at hrd
          have HRD := Lib.hid hrd
          clear hY hF hrd
          go_wp2
          go_ret2
          rw [HRD.out]
          exact ringRes_of (by rw [natI_len]; exact hL.out) hO.out (Nat.le_refl _) hb.out
end Go.Proofs.Ytanfhgliilkhjaa
