/-
  Contracts of the reference's l1At, BookReadings, BookRead.
-/
import Derived.Test.YtanfhgliilkhjaaBkU
import Derived.Deep.RegionHeld3
namespace Go.Proofs.Ytanfhgliilkhjaa
open Go.RowKit Go.Deep
set_option linter.unusedVariables false

theorem a_bool (P : Prop) : ∃ v : Bool, v = true ↔ P := by
  rcases Classical.em P with h | h
  · exact ⟨true, fun _ => h, fun _ => rfl⟩
  · exact ⟨false, fun x => (by cases x), fun x => absurd x h⟩
theorem no_bool {v : Bool} {P : Prop} (h : v = true ↔ P) (hn : ¬ P) : v = false := by
  cases v
  · rfl
  · exact absurd (h.1 rfl) hn
/-- A part of a list that is read. -/
theorem Rn.part {w : World} {B b off n k c : Nat} {f : Nat → Int} (h : Rn w B (some ⟨b, off, none⟩) n f) (hk : k + c ≤ n) : Rn w B (some ⟨b, off + k, none⟩) c (fun i => f (k + i)) := fun hn => by
  obtain ⟨b', off', e, hb, hc⟩ := h (by omega)
  simp only [Option.some.injEq, Addr.mk.injEq, and_true] at e
  obtain ⟨rfl, rfl⟩ := e
  exact ⟨_, _, rfl, hb, fun i hi => by have := hc (k + i) (by omega); rwa [← Nat.add_assoc] at this⟩
set_option maxHeartbeats 1000000 in
theorem sAt (R : Option Addr) (d : Nat) (E : LD) (p : Nat) (A : Option Addr) (c : Nat) (e : LD) (w : World) (hR : Rn w w.heap.size R E.n E.f) (hA : Rn w w.heap.size A e.n e.f) (hn : E.n ≤ 1000) (he : e.n ≤ 1000) (hp : p ≤ E.n) (hd : E.n ≤ d) (hd2 : d ≤ maxLen) (he0 : 1 ≤ e.n) (v : Bool) (hv : Hid (v = true ↔ stAt E p e)) :
    Calls Try.prog 79 #[.slice R E.n d, .int .i64 (p : Int), .slice A e.n c] w fun x w' => x = .returned (.bool v) ∧ ∃ q, w' = w.drewN q := by
  unfold maxLen at hd2
  by_cases h : p + e.n ≤ E.n
  · have d1 : decide ((p : Int) + (e.n : Int) ≤ (E.n : Int)) = true := decide_eq_true (by omega)
    obtain ⟨b, off, rfl, hb, hcc⟩ := hR (by omega)
    have k0 : (0 : Int) ≤ (p : Int) := by omega
    have k1 : (p : Int) ≤ (p : Int) + (e.n : Int) := by omega
    have k2 : (p : Int) + (e.n : Int) ≤ (d : Int) := by omega
    have kd : ¬ d = p := by omega
    have hL := fun cx => l1same (some ⟨b, off + p, none⟩) e.n cx (fun i => E.f (p + i)) A e.n c e.f w (hR.part h) hA (by omega) (by omega)
    have hv2 : eqI e.n (fun i => E.f (p + i)) e.n e.f = v := by
      cases hbq : eqI e.n (fun i => E.f (p + i)) e.n e.f
      · symm
        refine no_bool hv.out (fun x => ?_)
        have : eqI e.n (fun i => E.f (p + i)) e.n e.f = true := eqI_yes (fun i hi => x.2 i hi)
        rw [hbq] at this; cases this
      · symm
        exact hv.out.2 ⟨h, fun i hi => ((eqI_iff (d := ⟨e.n, fun i => E.f (p + i)⟩) (e := ⟨e.n, e.f⟩)).1 hbq).2 i hi⟩
    rw [hv2] at hL
    have HL := Lib.hid hL
    have hs1 : ((p : Int) + (e.n : Int) - (p : Int)).toNat = e.n := by omega
    have hs2 : (p : Int) + (e.n : Int) - (p : Int) = (e.n : Int) := by omega
    have hs3 : ((p : Int) + (e.n : Int)).toNat - p = e.n := by omega
    have hs4 : ((p : Int) + (e.n : Int)).toNat = p + e.n := by omega
    have hs5 : p + e.n - p = e.n := by omega
    clear hL hv2 hv hR hA hcc
    go_enter Try.func79, Try.ntmps79
    go_wp2_with fail
    refine (HL.out _).mono ?_
    rintro x w2 ⟨rfl, q, rfl⟩
    go_wp2
    go_ret
    exact ⟨rfl, q, rfl⟩
  · have d1 : decide ((p : Int) + (e.n : Int) ≤ (E.n : Int)) = false := decide_eq_false (by omega)
    obtain rfl := no_bool hv.out (fun x => h x.1)
    clear hv hR hA
    go_enter Try.func79, Try.ntmps79
    go_wp2
    go_ret
    exact ⟨rfl, 0, rfl⟩
theorem row_set {w : World} {g T n : Nat} {F : Nat → Int} (h : w.rowIs g T n (fun j => .int .i64 (F j))) (p : Nat) (x : Int) : (w.setCell ⟨g, p, none⟩ (.int .i64 x)).rowIs g T n (fun j => .int .i64 (if j = p then x else F j)) :=
  (h.set (i := p) (v := .int .i64 x)).congr fun j _ => by
    by_cases e : j = p
    · rw [if_pos e, if_pos e]
    · rw [if_neg e, if_neg e]
theorem row_of {w w' : World} {g T n : Nat} {F : Nat → Int} (h : w.rowIs g T n (fun j => .int .i64 (F j))) (e : w'.heap[g]? = w.heap[g]?) : w'.rowIs g T n (fun j => .int .i64 (F j)) := by
  obtain ⟨c, hc, hr⟩ := h
  exact ⟨c, e.trans hc, hr⟩
theorem row_congr {w : World} {g T n : Nat} {F G : Nat → Int} (h : w.rowIs g T n (fun j => .int .i64 (F j))) (e : ∀ j, j < n → F j = G j) : w.rowIs g T n (fun j => .int .i64 (G j)) := h.congr fun j hj => by rw [e j hj]
theorem row_made {w : World} {T g T2 n k : Nat} {F : Nat → Value} {cs : Array Value} {v : Value} (h : ((w.alloc (.cells cs T)).setCell ⟨g, k, none⟩ v).rowIs g T2 n F) (hg : g = w.heap.size := by first | rfl | assumption | (symm; assumption)) : (w.alloc (.cells (cs.setIfInBounds k v) T)).rowIs g T2 n F := by
  subst hg
  have : (w.alloc (.cells cs T)).setCell ⟨w.heap.size, k, none⟩ v = w.alloc (.cells (cs.setIfInBounds k v) T) := by
    simp only [go_sem]
  rwa [this] at h
/-- The counts while place q is the last one done. -/
def gW (E : LD) (D : Nat → LD) (m q : Nat) (j : Nat) : Int := if q ≤ j then (ways E D m (E.n - j) : Int) else 0
set_option maxRecDepth 100000 in
set_option maxHeartbeats 4000000 in
theorem sReadings (A : Option Addr) (m c : Nat) (D : Nat → LD) (R : Option Addr) (d : Nat) (E : LD) (w : World) (h : SsRn w w.heap.size A m D) (hm : m ≤ 1048576) (hD : ∀ i, i < m → (D i).n ≤ 1048576)
    (hR : Rn w w.heap.size R E.n E.f) (hn : E.n ≤ 1048576) (hd : E.n ≤ d) (hd2 : d ≤ maxLen) (v : Int) (hv : Hid ((ringB E D m ∧ v = (ways E D m E.n : Int)) ∨ (¬ ringB E D m ∧ v = -1))) :
    Calls Try.prog 78 #[.slice A m c, .slice R E.n d] w fun e w' => e = .returned (.int .i64 v) ∧ Below w.heap.size w w' := by
  obtain ⟨v1, hv1⟩ := a_bool (bookV D m)
  have HB := Lib.hid (sBook A m c D w h hm hD v1 hv1)
  have V1 := Lib.hid hv1
  have H := Lib.hid h
  have HR := Lib.hid hR
  clear h hD hR hv1
  go_enter Try.func78, Try.ntmps78
  go_wp2_with fail
  refine HB.out.mono ?_
  rintro e w1 ⟨rfl, hb⟩
  have B1 := Lib.hid hb
  have S1 := Lib.hid (H.out.topb hb)
  have R1 := Lib.hid (HR.out.topb hb)
  clear hb HB H HR
  cases v1
  · have hp : ¬ bookV D m := fun x => by have := V1.out.2 x; cases this
    obtain rfl : v = -1 := by
      rcases hv.out with x | x
      · exact absurd x.1.1 hp
      · exact x.2
    clear hp V1
    go_wp2
    go_ret
    exact ⟨rfl, B1.out⟩
  have HP := Lib.hid (V1.out.1 (by trivial))
  obtain ⟨v2, hv2⟩ := a_bool (((0 : Nat) ≤ E.n ∧ E.n ≤ 20) ∧ grpV E.n E.f)
  have V2 := Lib.hid hv2
  have HG := Lib.hid (fun (W : World) (x : Rn W W.heap.size R E.n E.f) => sGroups R E.n d E.f 0 20 W x hn v2 V2.out)
  clear hv2 V1
  go_wp2_with fail
  refine (HG.out _ R1.out).mono ?_
  rintro e w2 ⟨rfl, rfl⟩
  cases v2
  · have hp : ¬ ringB E D m := fun x => by have := V2.out.2 ⟨⟨Nat.zero_le _, x.2.1⟩, x.2.2⟩; cases this
    obtain rfl : v = -1 := by
      rcases hv.out with x | x
      · exact absurd x.1 hp
      · exact x.2
    clear hp V2 HG
    go_wp2
    go_ret
    exact ⟨rfl, B1.out⟩
  have hv22 := V2.out.1 (by trivial)
  have hn20 : E.n ≤ 20 := hv22.1.2
  have hm10 : m ≤ 10 := HP.out.1
  obtain rfl : v = (ways E D m E.n : Int) := by
    rcases hv.out with x | x
    · exact x.2
    · exact absurd ⟨HP.out, hn20, hv22.2⟩ x.1
  have htn : ((E.n : Int) + 1).toNat = E.n + 1 := by omega
  have sz1 := B1.out.size
  have hmk := run_make_row' (P := Try.prog) 23 3 (.int .i64 0) 8 Try.underlying23 intInfo rfl .i64 .i64 (E.n + 1) (by omega) (by omega)
  have hcn : ((E.n + 1 : Nat) : Int) = (E.n : Int) + 1 := by omega
  rw [hcn] at hmk
  clear hv hv22 V2 HG
  have hrow := World.rowIs_made w2 (.int .i64 0) (E.n + 1) 3
  have hc0 := hrow.cell (show E.n < E.n + 1 by omega)
  have hf0 := hrow.frozen E.n
  have hx0 : (0 : Int) ≤ (E.n : Int) := by omega
  have hx1 : (E.n : Int) < (E.n : Int) + 1 := by omega
  have HR0 := Lib.hid (row_congr (G := gW E D m E.n) (row_set (F := fun _ => 0) hrow E.n 1) (fun j hj => by
    unfold gW
    by_cases e : j = E.n
    · rw [if_pos e, if_pos (by omega), e, show E.n - E.n = 0 by omega, ways_zero]; rfl
    · rw [if_neg e, if_neg (by omega)]))
  clear hrow
  go_wp2_with fail
  obtain ⟨g, hg⟩ : ∃ g, w2.heap.size = g := ⟨_, rfl⟩
  rw [hg]
  have G0 := Lib.hid hg
  clear hg
  go_loopw [6] (fun i wr => ∃ p : Nat, p ≤ E.n ∧ i = .int .i64 ((p : Int) - 1) ∧ Hid (wr.rowIs g 3 (E.n + 1) (fun j => .int .i64 (gW E D m p j))) ∧ Hid (Below w2.heap.size w2 wr)) (fun i _ => (intOf i + 1).toNat)
  case atStart => exact ⟨E.n, Nat.le_refl _, by go_num, by have h9 := HR0.out; rw [G0.out] at h9; exact row_made h9 G0.out.symm, by show Below _ _ _; have hg9 := G0.out; go_grown⟩
  case round =>
    obtain ⟨p, hp, rfl, hB, hb⟩ := hrel
    clear HR0 hmk hc0 hf0
    cases p with
    | succ p =>
      have hpp : ((p + 1 : Nat) : Int) - 1 = (p : Int) := by omega
      obtain ⟨K, hK⟩ : ∃ K, E.n = p + K := ⟨E.n - p, by omega⟩
      have hK1 : 1 ≤ K := by omega
      have hKa : p + K ≤ E.n := by omega
      have hKb : E.n ≤ p + K := by omega
      have HK := Lib.hid hK
      clear hK
      have BP : Hid (wr.rowIs g 3 (E.n + 1) (fun j => .int .i64 (if j = p then ((smW E D K (ways E D m) 0 : Nat) : Int) else gW E D m (p + 1) j))) := row_congr hB.out (fun j hj => by
        by_cases e : j = p
        · rw [if_pos e]; unfold gW; rw [if_neg (by omega)]; rfl
        · rw [if_neg e])
      rw [hpp]
      have HBW := Lib.hid hb.out
      clear hB hb
      go_wp2_with fail
      go_loopw [7] (fun i wq => ∃ j : Nat, j ≤ m ∧ i = .int .i64 j ∧ Hid (wq.rowIs g 3 (E.n + 1) (fun x => .int .i64 (if x = p then ((smW E D K (ways E D m) j : Nat) : Int) else gW E D m (p + 1) x))) ∧ Hid (Below w2.heap.size w2 wq)) (fun i _ => (m - intOf i).toNat)
      case atStart => exact ⟨0, Nat.zero_le _, rfl, BP.out, HBW.out⟩
      case round =>
        clear BP HBW
        obtain ⟨j, hj, rfl, hB, hb⟩ := hrel
        have hsz := hb.out.size
        have hgl := World.rowIs.lt hB.out
        by_cases hlt : j < m
        · obtain ⟨b, off, a1, c1, n1, f1, rfl, hbB, hDj, x0, r1⟩ := (S1.out.below hb.out).at_ hlt
          have hcd := (HP.out.2 j hlt).1
          have hS : smW E D K (ways E D m) (j + 1) = smW E D K (ways E D m) j + if stAt E (E.n - K) (D j) then ways E D m (K - max 1 (D j).n) else 0 := rfl
          have hsm := smW_sm (e := E) (k := K) HP.out hK1 (by omega) hj
          have hsm2 := smW_sm (e := E) (k := K) HP.out hK1 (by omega) (show j + 1 ≤ m from hlt)
          rw [hDj] at hcd hS
          have hn1 : 1 ≤ n1 ∧ n1 ≤ 5 := hcd.1
          have hmx : max 1 n1 = n1 := by omega
          have hKp : E.n - K = p := by omega
          rw [hKp] at hS
          simp only [hmx] at hS
          have RR := Lib.hid ((R1.out.below hb.out).up hsz)
          have RA := Lib.hid (r1.up hsz)
          have p0 : (0 : Int) ≤ (p : Int) := by omega
          have p1 : (p : Int) < (E.n : Int) + 1 := by omega
          have j0 : (0 : Int) ≤ (j : Int) := by omega
          have j1 : (j : Int) < (m : Int) := by omega
          obtain ⟨S, hSe⟩ : ∃ S, smW E D K (ways E D m) j = S := ⟨_, rfl⟩
          obtain ⟨S2, hSe2⟩ : ∃ S2, smW E D K (ways E D m) (j + 1) = S2 := ⟨_, rfl⟩
          rw [hSe] at hS hsm
          rw [hSe2] at hS hsm2
          have HSe := Lib.hid hSe
          have HSe2 := Lib.hid hSe2
          clear hSe hSe2 hcd hDj r1
          by_cases hs : stAt E p ⟨n1, f1⟩
          · rw [if_pos hs] at hS
            have HA := Lib.hid (fun (W : World) (x : Rn W W.heap.size R E.n E.f) (y : Rn W W.heap.size a1 n1 f1) => sAt R d E p a1 c1 ⟨n1, f1⟩ W x y (by omega) (by simp only []; omega) (by omega) hd hd2 hn1.1 true ⟨fun _ => hs, fun _ => rfl⟩)
            have hnk : p + n1 ≤ E.n := hs.1
            have hwq := ways_sm (e := E) (D := D) (m := m) (k := K - n1) HP.out (by omega)
            obtain ⟨y, hy⟩ : ∃ y, ways E D m (K - n1) = y := ⟨_, rfl⟩
            have hrr := hB.out
            have hc1 := World.rowIs.cell hrr (show p < E.n + 1 by omega)
            have hc2 := World.rowIs.cell hrr (show p + n1 < E.n + 1 by omega)
            have hfz := World.rowIs.frozen hrr p
            rw [if_pos rfl, HSe.out] at hc1
            rw [if_neg (by omega)] at hc2
            have hgw : gW E D m (p + 1) (p + n1) = (y : Int) := by unfold gW; rw [if_pos (by omega), show E.n - (p + n1) = K - n1 by omega, hy]
            rw [hgw] at hc2
            rw [hy] at hS hwq
            have NR := Lib.hid (fun q : Nat => row_congr (G := fun x => if x = p then ((smW E D K (ways E D m) (j + 1) : Nat) : Int) else gW E D m (p + 1) x) (row_set (w := wr.drewN q) hrr p ((S : Int) + (y : Int))) (fun x hx => by
              by_cases e : x = p
              · rw [if_pos e, if_pos e, HSe2.out, hS]; omega
              · rw [if_neg e, if_neg e, if_neg e]))
            have HS2 := Lib.hid hS
            have q0 : (0 : Int) ≤ (p : Int) + (n1 : Int) := by omega
            have q1 : (p : Int) + (n1 : Int) < (E.n : Int) + 1 := by omega
            have htn2 : ((p : Int) + (n1 : Int)).toNat = p + n1 := by omega
            have hne : b ≠ g := by have := G0.out; omega
            have yw1 : IntKind.i64.wrap ((p : Int) + (n1 : Int)) = (p : Int) + (n1 : Int) := IntWalk.i64_in _ (by omega)
            have yw2 : IntKind.i64.wrap ((S : Int) + (y : Int)) = (S : Int) + (y : Int) := IntWalk.i64_in _ (by omega)
            clear hs hrr hgw hy hB hS
            go_wp2_with fail
            refine (HA.out _ RR.out RA.out).mono ?_
            rintro e w3 ⟨rfl, q, rfl⟩
            go_wp2_with fail
            go_region
            go_wp2
            go_roundw
            case rel => exact ⟨j + 1, by omega, by go_num, NR.out _, by show Below _ _ _; have h9 := below_dn hb.out (q + 1); have hg9 := G0.out; go_grown⟩
            case measure => simp [intOf]; omega
          · rw [if_neg hs] at hS
            have HA := Lib.hid (fun (W : World) (x : Rn W W.heap.size R E.n E.f) (y : Rn W W.heap.size a1 n1 f1) => sAt R d E p a1 c1 ⟨n1, f1⟩ W x y (by omega) (by simp only []; omega) (by omega) hd hd2 hn1.1 false ⟨fun x => (by cases x), fun x => absurd x hs⟩)
            have NR : Hid (wr.rowIs g 3 (E.n + 1) (fun x => .int .i64 (if x = p then ((smW E D K (ways E D m) (j + 1) : Nat) : Int) else gW E D m (p + 1) x))) := row_congr hB.out (fun x hx => by
              by_cases e : x = p
              · rw [if_pos e, if_pos e, HSe.out, HSe2.out]; omega
              · rw [if_neg e, if_neg e])
            clear hs hB hS
            go_wp2_with fail
            refine (HA.out _ RR.out RA.out).mono ?_
            rintro e w3 ⟨rfl, q, rfl⟩
            go_wp2
            go_roundw
            case rel => exact ⟨j + 1, by omega, by go_num, NR.out, below_dn hb.out _⟩
            case measure => simp [intOf]; omega
        · obtain rfl : j = m := by omega
          have HN : Hid (wr.rowIs g 3 (E.n + 1) (fun x => .int .i64 (gW E D j p x))) := row_congr hB.out (fun x hx => by
            unfold gW
            by_cases e : x = p
            · rw [if_pos e, if_pos (by omega), ← ways_pos (by omega), e, show E.n - p = K by omega]
            · rw [if_neg e]
              by_cases e2 : p + 1 ≤ x
              · rw [if_pos e2, if_pos (by omega)]
              · rw [if_neg e2, if_neg (by omega)])
          clear hB
          go_wp2
          go_roundw
          case rel => exact ⟨p, by omega, by go_num, HN.out, hb.out⟩
          case measure => first | (simp [intOf]; done) | (simp [intOf]; omega)
    | zero =>
      have hp0 : ((0 : Nat) : Int) - 1 = -1 := by omega
      rw [hp0]
      have hc := World.rowIs.cell hB.out (show 0 < E.n + 1 by omega)
      have hgw : gW E D m 0 0 = (ways E D m E.n : Int) := by unfold gW; rw [if_pos (by omega)]; rfl
      rw [hgw] at hc
      have i0 : (0 : Int) < (E.n : Int) + 1 := by omega
      have HZ := Lib.hid (bl B1.out (Nat.le_refl _) hb.out)
      clear hgw hB hb
      go_wp2
      go_ret
      exact ⟨rfl, HZ.out⟩
end Go.Proofs.Ytanfhgliilkhjaa
