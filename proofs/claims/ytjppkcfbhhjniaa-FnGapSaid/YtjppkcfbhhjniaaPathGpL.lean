/-
  The walk of FnGap.
-/
import Derived.Test.YtjppkcfbhhjniaaPathOrL
namespace Go.Proofs.Ytjppkcfbhhjniaa
open Go.RowKit Go.Deep
set_option linter.unusedVariables false
set_option linter.unusedSimpArgs false

/-- Do two trains, of which one is among the first i (or is i and the other among the first t), have the gap? -/
def gapHit (f g : Nat → Int) (m : Nat) (V : Int) (i t : Nat) : Prop := ∃ a b, a < m ∧ b < m ∧ (a < i ∨ (a = i ∧ b < t)) ∧ a ≠ b ∧ 0 ≤ f a - g b ∧ f a - g b = V
theorem gapHit_zero (f g : Nat → Int) (m : Nat) (V : Int) : ¬ gapHit f g m V 0 0 := fun ⟨a, b, _, _, h, _⟩ => by omega
theorem gapHit_row {f g : Nat → Int} {m : Nat} {V : Int} {i : Nat} : gapHit f g m V i m ↔ gapHit f g m V (i + 1) 0 := by
  constructor
  · rintro ⟨a, b, ha, hb, h, r⟩; exact ⟨a, b, ha, hb, by omega, r⟩
  · rintro ⟨a, b, ha, hb, h, r⟩; exact ⟨a, b, ha, hb, by omega, r⟩
theorem gapHit_step {f g : Nat → Int} {m : Nat} {V : Int} {i t : Nat} (hi : i < m) (ht : t < m) : gapHit f g m V i (t + 1) ↔ gapHit f g m V i t ∨ (i ≠ t ∧ 0 ≤ f i - g t ∧ f i - g t = V) := by
  constructor
  · rintro ⟨a, b, ha, hb, h, r⟩
    by_cases e : a = i ∧ b = t
    · obtain ⟨rfl, rfl⟩ := e; exact .inr r
    · exact .inl ⟨a, b, ha, hb, by omega, r⟩
  · rintro (⟨a, b, ha, hb, h, r⟩ | r)
    · exact ⟨a, b, ha, hb, by omega, r⟩
    · exact ⟨i, t, hi, ht, by omega, r⟩
set_option maxHeartbeats 4000000 in
theorem y_FnGap (a0 : Option Addr) (len0 cap0 : Nat) (w : World) (hA : BytesAt w.heap.size w a0 len0) (hl : len0 ≤ 1048576) (hc : len0 ≤ cap0) (hm : cap0 ≤ 9223372036854775807) :
    Calls Try.prog 13 #[.slice a0 len0 cap0] w fun e w' => e = .returned (.bool true) ∧ Below w.heap.size w w' := by
  have hAH := Lib.hid hA
  have hd0 : decide ((1048576 : Int) < (len0 : Int)) = false := by simp; omega
  clear hA
  go_enter Try.func13, Try.ntmps13
  go_wp2_with fail
  refine (d_DrawPathsGap a0 len0 cap0 w hAH.out hl hc hm).mono ?_
  rintro e wb ⟨n, g, m, c, D, k, rfl, hn, hm10, hD, hp, hb⟩
  clear hc hm hAH hl hd0
  have HB := Lib.hid hb
  have P0 := Lib.hid hp
  clear hb hp
  by_cases hno : hasS n D m k = true ∧ 2 ≤ m
  rotate_left
  · have hno' : (∀ W : World, ∀ A c, PsRn W W.heap.size A m D → Calls Try.prog 18 #[.int .i64 (n : Int), .slice A m c, .int .i64 k] W fun e w' => e = .returned (.int .i64 (-1)) ∧ Below W.heap.size W w') ∧ (∀ W : World, ∀ A c, PsRn W W.heap.size A m D → Calls Try.prog 49 #[.int .i64 (n : Int), .slice A m c, .int .i64 k] W fun e w' => e = .returned (.int .i64 (-1)) ∧ Below W.heap.size W w') := by
      cases hv : hasS n D m k
      · exact ⟨fun W A c h => iGap_no A m c D n k W h (by omega) hv, fun W A c h => sGap_no A m c D n k W h (by omega) hv⟩
      · obtain ⟨j, rfl⟩ := Int.eq_ofNat_of_zero_le (hasS_iff.1 hv).2.1
        have : m < 2 := Classical.byContradiction fun x => hno ⟨hv, by omega⟩
        exact ⟨fun W A c h => iGap_few A m c D n j W h hv this, fun W A c h => sGap_few A m c D n j W h hv this⟩
    obtain ⟨hi, hs⟩ := hno'
    have I := Lib.hid hi
    have S := Lib.hid hs
    clear hno hi hs
    go_wp2_with fail
    refine (I.out _ _ _ P0.out).mono ?_
    rintro e w1 ⟨rfl, hb1⟩
    have P1 := Lib.hid (P0.out.topb hb1)
    go_wp2_with fail
    refine (S.out _ _ _ P1.out).mono ?_
    rintro e w2 ⟨rfl, hb2⟩
    have hb2 := bl hb1 (Nat.le_refl _) hb2
    clear hb1 P1
    go_wp2
    go_ret
    exact ⟨rfl, bl HB.out (Nat.le_refl _) hb2⟩
  obtain ⟨hv, h2⟩ := hno
  obtain ⟨hpv, hk0, hkn⟩ := hasS_iff.1 hv
  obtain ⟨j, rfl⟩ := Int.eq_ofNat_of_zero_le hk0
  have hm8 : m ≤ 8 := (pathsV_iff.1 hpv).2.2.1
  have PV := Lib.hid hpv
  have SE := Lib.hid (sec_of hpv hkn)
  obtain ⟨F, hF⟩ : ∃ F : Nat → Int, (fun i => (D i).f1 j) = F := ⟨_, rfl⟩
  obtain ⟨G, hG⟩ : ∃ G : Nat → Int, (fun i => (D i).f2 j) = G := ⟨_, rfl⟩
  have HF := Lib.hid hF
  have HG := Lib.hid hG
  rw [hF, hG] at SE
  obtain ⟨V, hV⟩ : ∃ V, gapT F G m (m - 1) = V := ⟨_, rfl⟩
  have I : Hid (∀ W : World, ∀ A c, PsRn W W.heap.size A m D → Calls Try.prog 18 #[.int .i64 (n : Int), .slice A m c, .int .i64 (j : Int)] W fun e w' => e = .returned (.int .i64 V) ∧ Below W.heap.size W w') := fun W A c h => by have := iGap_yes A m c D n j W h hv h2; rwa [hF, hG, hV] at this
  have S : Hid (∀ W : World, ∀ A c, PsRn W W.heap.size A m D → Calls Try.prog 49 #[.int .i64 (n : Int), .slice A m c, .int .i64 (j : Int)] W fun e w' => e = .returned (.int .i64 V) ∧ Below W.heap.size W w') := fun W A c h => by have := sGap_yes A m c D n j W h hv h2; rwa [hF, hG, hV] at this
  have hVb := SE.out.gap_bd (t := m - 1) (by omega)
  rw [hV] at hVb
  have LOW : Hid (∀ a b, a < m → b < m → a ≠ b → 0 ≤ F a - G b → V ≤ F a - G b) := fun a b ha hb hne hd => by rw [← hV]; exact SE.out.gap_low ha hb hne hd
  have HIT : Hid (gapHit F G m V m 0) := by
    obtain ⟨a, b, ha, hb, hne, e⟩ := SE.out.gap_hit h2
    rw [hV] at e
    exact ⟨a, b, ha, hb, .inl ha, hne, by omega, e⟩
  have dV : decide (V < 0) = false := decide_eq_false (by omega)
  clear hv hpv hF hG hV
  go_wp2_with fail
  refine (I.out _ _ _ P0.out).mono ?_
  rintro e w1 ⟨rfl, hb1⟩
  have P1 := Lib.hid (P0.out.topb hb1)
  go_wp2_with fail
  refine (S.out _ _ _ P1.out).mono ?_
  rintro e w2 ⟨rfl, hb2⟩
  have P2 := Lib.hid (P1.out.topb hb2)
  have HB2 := Lib.hid (bl (bl HB.out (Nat.le_refl _) hb1) (Nat.le_refl _) hb2)
  clear hb1 hb2 P1 P0 HB I S
  go_wp2_with fail
  go_loopw [8, 9] (fun h i wr => ∃ (t : Nat) (bb : Bool), t ≤ m ∧ i = .int .i64 t ∧ h = .bool bb ∧ Hid (bb = true ↔ gapHit F G m V t 0) ∧ Hid (∃ q, wr = w2.drewN q)) (fun _ i _ => m - (intOf i).toNat)
  case atStart => exact ⟨0, false, Nat.zero_le _, rfl, rfl, by constructor <;> intro h; cases h; exact absurd h (gapHit_zero _ _ _ _), 0, rfl⟩
  case round =>
    obtain ⟨t, bb, ht, rfl, rfl, hbb, hq⟩ := hrel
    by_cases hlt : t < m
    · obtain ⟨wo, rfl⟩ : ∃ wo : World, wo = wr := ⟨_, rfl⟩
      go_wp2_with fail
      go_loopw [8, 10] (fun h i wr => ∃ (u : Nat) (bb : Bool), u ≤ m ∧ i = .int .i64 u ∧ h = .bool bb ∧ Hid (bb = true ↔ gapHit F G m V t u) ∧ Hid (∃ q, wr = w2.drewN q)) (fun _ i _ => m - (intOf i).toNat)
      case atStart => exact ⟨0, bb, Nat.zero_le _, rfl, rfl, hbb, hq⟩
      case round =>
        clear hbb hq
        obtain ⟨u, cc, hu, rfl, rfl, hcc, hq⟩ := hrel
        have P4 : Hid (PsRn wr wr.heap.size (some ⟨g, 0, none⟩) m D) := by obtain ⟨q, rfl⟩ := hq.out; exact P2.out.topq q
        by_cases hult : u < m
        · obtain ⟨a1, k1, a2, k2, n1, f1, n2, f2, hD1, x0, x1, r1, r2⟩ := psRn_at0 P4.out hlt
          obtain ⟨a1', k1', a2', k2', n1', f1', n2', f2', hD', x0', x1', r1', r2'⟩ := psRn_at0 P4.out hult
          have atx := pathsV_at PV.out hlt
          have atz := pathsV_at PV.out hult
          have hFx : F t = f1 j := by rw [← HF.out]; simp only [hD1]
          have hGz : G u = f2' j := by rw [← HG.out]; simp only [hD']
          rw [hD1] at atx
          rw [hD'] at atz
          obtain ⟨l1, -, bx⟩ := atx
          obtain ⟨-, l2, bz⟩ := atz
          have bx := bx j hkn
          have bz := bz j hkn
          simp only at l1 l2 bx bz
          obtain ⟨s1, o1, rfl, hd1, hc1⟩ := r1 (by omega)
          obtain ⟨s2, o2, rfl, hd2, hc2⟩ := r2' (by omega)
          have v1 := hc1 j (by omega)
          have v2 := hc2 j (by omega)
          have low := LOW.out t u hlt hult
          have stp := gapHit_step (f := F) (g := G) (V := V) hlt hult
          rw [hFx, hGz] at low stp
          generalize f1 j = ux at *
          generalize f2' j = uz at *
          have y3 : IntKind.i64.wrap (ux - uz) = ux - uz := IntWalk.i64_in _ (by omega)
          have j0 : (0 : Int) ≤ (t : Int) := by omega
          have j1 : (t : Int) < (m : Int) := by omega
          have j2 : (0 : Int) ≤ (u : Int) := by omega
          have j3 : (u : Int) < (m : Int) := by omega
          have j7 : (j : Int) < (n1 : Int) := by omega
          have j8 : (j : Int) < (n2' : Int) := by omega
          have j11 : (0 : Int) ≤ (j : Int) := by omega
          have ST := Lib.hid stp
          clear hc1 hc2 hFx hGz hD1 hD' r1 r2 r1' r2' x1 x0' l1 l2 stp bx bz
          by_cases hne : t = u
          · have HH : Hid (cc = true ↔ gapHit F G m V t (u + 1)) := by show _ ↔ _; rw [ST.out, hcc.out]; constructor; exact .inl; rintro (h | h); exact h; exact absurd hne h.1
            have dn : ((t : Int) != (u : Int)) = false := eq_lit (by omega)
            clear low hne hcc
            go_wp2
            go_quiet (fail)
            clear y3
            go_wp2
            go_roundw
            case rel => exact ⟨u + 1, cc, by omega, by go_num, rfl, HH, by obtain ⟨q, rfl⟩ := hq.out; exact ⟨_, World.drewN_drewN _ _ _⟩⟩
            case measure => simp [intOf]; omega
          have dn : ((t : Int) != (u : Int)) = true := ne_lit (by omega)
          have low := low hne
          have HH : ∀ b : Bool, (b = true ↔ (cc = true ∨ (0 ≤ ux - uz ∧ ux - uz = V))) → Hid (b = true ↔ gapHit F G m V t (u + 1)) := by
            intro b hb
            show _ ↔ _
            rw [hb, ST.out, ← hcc.out]
            constructor
            · rintro (h | h); exact .inl h; exact .inr ⟨hne, h⟩
            · rintro (h | h); exact .inl h; exact .inr h.2
          clear hne hcc ST
          go_wp2
          go_quiet (fail)
          clear y3
          go_wp2
          all_goals
            first
            | (exfalso; omega)
            | (go_roundw
               case rel => exact ⟨u + 1, _, by omega, by go_num, rfl, HH _ (by by_cases c1 : cc = true <;> by_cases c2 : 0 ≤ ux - uz <;> by_cases c3 : ux - uz = V <;> first | contradiction | (exfalso; omega) | (simp [c1, c2, c3]; done) | (simp [c1, c2, c3]; omega)), by obtain ⟨q, rfl⟩ := hq.out; exact ⟨_, World.drewN_drewN _ _ _⟩⟩
               case measure => simp [intOf]; omega)
        · obtain rfl : u = m := by omega
          have HH : Hid (cc = true ↔ gapHit F G u V (t + 1) 0) := by show _ ↔ _; rw [hcc.out]; exact gapHit_row
          clear hcc P4
          go_wp2
          go_roundw
          case rel => exact ⟨t + 1, cc, by omega, by go_num, rfl, HH, hq⟩
          case measure => simp [intOf]; omega
    · obtain rfl : t = m := by omega
      have hr := hide (show bb = true from hbb.out.2 HIT.out)
      have HX : Hid (Below w2.heap.size w2 wr) := by obtain ⟨q, rfl⟩ := hq.out; exact dn_below _ _ _
      clear hbb
      go_wp2
      go_ret
      exact ⟨ret_bool hr, bl HB2.out (Nat.le_refl _) HX.out⟩
theorem w_FnGap (a0 : Option Addr) (len0 cap0 : Nat) (z0 : List Int) (w : World) (w0 : IsRow .u8 w a0 len0 cap0 z0) :
    Calls Try.prog 13 #[.slice a0 len0 cap0] w fun e w' => e = .returned (.bool true) ∧ Below w.heap.size w w' := by
  obtain ⟨hA, hc, hm⟩ := w0.bytes
  by_cases hs0 : 1048576 < len0
  · have hd0 : decide ((1048576 : Int) < (len0 : Int)) = true := by simp; omega
    clear w0 hA
    go_enter Try.func13, Try.ntmps13
    go_wp2
    go_ret
    exact ⟨rfl, Below.refl _ _⟩
  · exact y_FnGap a0 len0 cap0 w hA (by omega) hc hm
end Go.Proofs.Ytjppkcfbhhjniaa
