/-
  Contracts of the laws' sameInts and samePath; of PathStands.
-/
import Derived.Test.YtjppkcfbhhjniaaPathLS
import Derived.Test.YtjppkcfbhhjniaaPathSC
namespace Go.Proofs.Ytjppkcfbhhjniaa
open Go.RowKit
set_option linter.unusedVariables false

set_option maxHeartbeats 1000000 in
theorem sameI (A : Option Addr) (n c : Nat) (f : Nat → Int) (D : Option Addr) (m d : Nat) (g : Nat → Int) (w : World) (hA : Rn w w.heap.size A n f) (hD : Rn w w.heap.size D m g) (hn : n ≤ 1099511627776) (hm : m ≤ 1099511627776) :
    Calls Try.prog 22 #[.slice A n c, .slice D m d] w fun e w' => e = .returned (.bool (eqI n f m g)) ∧ ∃ q, w' = w.drewN q := by
  by_cases e : n = m
  rotate_left
  · have hr := hide (eqI_no1 (f := f) (g := g) e)
    have hd : ((n : Int) != (m : Int)) = true := ne_lit (by omega)
    clear e
    go_enter Try.func22, Try.ntmps22
    go_wp2
    go_ret
    exact ⟨ret_bool hr.symm, 0, rfl⟩
  subst e
  have hd : ((n : Int) != (n : Int)) = false := eq_lit rfl
  go_enter Try.func22, Try.ntmps22
  go_wp2
  go_loopw [5] (fun i wr => ∃ k : Nat, k ≤ n ∧ i = .int .i64 k ∧ Hid (∀ j, j < k → f j = g j) ∧ Hid (∃ q, wr = w.drewN q)) (fun i _ => n - (intOf i).toNat)
  case atStart => exact ⟨0, Nat.zero_le _, rfl, fun _ h => absurd h (by omega), 0, rfl⟩
  case round =>
    obtain ⟨k, hk, rfl, hE, hq⟩ := hrel
    by_cases hlt : k < n
    · obtain ⟨b, off, rfl, hbB, hc⟩ := hA (by omega)
      obtain ⟨b2, off2, rfl, hbB2, hc2⟩ := hD (by omega)
      obtain ⟨q, rfl⟩ := hq.out
      have hcell := hc k hlt
      have hcell2 := hc2 k hlt
      have hk0 : (0 : Int) ≤ (k : Int) := by omega
      have hk1 : (k : Int) < (n : Int) := by omega
      clear hc hc2
      by_cases he : f k = g k
      · have hst : Hid (∀ j, j < k + 1 → f j = g j) := fun j hj => by
          by_cases x : j = k
          · subst x; exact he
          · exact hE j (by omega)
        have hd2 := eq_lit he
        clear he
        go_wp2
        go_quiet (fail)
        go_wp2
        go_roundw
        case rel => exact ⟨k + 1, by omega, by go_num, hst, _, rfl⟩
        case measure => simp [intOf]; omega
      · have hr := hide (eqI_no2 (m := n) hlt he)
        have hd2 := ne_lit he
        clear he
        go_wp2
        go_quiet (fail)
        go_wp2
        go_ret
        exact ⟨ret_bool hr.symm, _, World.drewN_drewN _ _ _⟩
    · obtain rfl : k = n := by omega
      have hr := hide (eqI_yes hE)
      obtain ⟨q, rfl⟩ := hq.out
      go_wp2
      go_ret
      exact ⟨ret_bool hr.symm, _, rfl⟩
set_option maxHeartbeats 1000000 in
theorem sameP (a1 a2 d1 d2 : Option Addr) (n1 c1 n2 c2 m1 e1 m2 e2 : Nat) (f1 f2 g1 g2 : Nat → Int) (w : World) (r1 : Rn w w.heap.size a1 n1 f1) (r2 : Rn w w.heap.size a2 n2 f2) (s1 : Rn w w.heap.size d1 m1 g1) (s2 : Rn w w.heap.size d2 m2 g2)
    (hn1 : n1 ≤ 1099511627776) (hn2 : n2 ≤ 1099511627776) (hm1 : m1 ≤ 1099511627776) (hm2 : m2 ≤ 1099511627776) :
    Calls Try.prog 31 #[.agg #[.slice a1 n1 c1, .slice a2 n2 c2], .agg #[.slice d1 m1 e1, .slice d2 m2 e2]] w fun e w' => e = .returned (.bool (eqP n1 f1 n2 f2 m1 g1 m2 g2)) ∧ Below w.heap.size w w' := by
  cases q1 : eqI n1 f1 m1 g1
  · have hr := hide (eqP_no1 (n2 := n2) (m2 := m2) (f2 := f2) (g2 := g2) q1)
    have Q1 := Lib.hid q1
    clear q1
    go_enter Try.func31, Try.ntmps31
    go_wp2_with fail
    refine (sameI a1 n1 c1 f1 d1 m1 e1 g1 _ (r1.top2 _ _) (s1.top2 _ _) hn1 hm1).mono ?_
    rintro e w1 ⟨rfl, q, rfl⟩
    rw [Q1.out]
    go_wp2
    go_ret
    exact ⟨ret_bool hr.symm, below_dn (by go_grown) _⟩
  · have Q1 := Lib.hid q1
    clear q1
    cases q2 : eqI n2 f2 m2 g2
    · have hr := hide (eqP_no2 (n1 := n1) (m1 := m1) (f1 := f1) (g1 := g1) q2)
      have Q2 := Lib.hid q2
      clear q2
      go_enter Try.func31, Try.ntmps31
      go_wp2_with fail
      refine (sameI a1 n1 c1 f1 d1 m1 e1 g1 _ (r1.top2 _ _) (s1.top2 _ _) hn1 hm1).mono ?_
      rintro e w1 ⟨rfl, q, rfl⟩
      rw [Q1.out]
      go_wp2_with fail
      refine (sameI a2 n2 c2 f2 d2 m2 e2 g2 _ ((r2.top2 _ _).topq _) ((s2.top2 _ _).topq _) hn2 hm2).mono ?_
      rintro e w1 ⟨rfl, q, rfl⟩
      rw [Q2.out]
      go_wp2
      go_ret
      exact ⟨ret_bool hr.symm, below_dn (by go_grown) _⟩
    · have hr := hide (eqP_yes Q1.out q2)
      have Q2 := Lib.hid q2
      clear q2
      go_enter Try.func31, Try.ntmps31
      go_wp2_with fail
      refine (sameI a1 n1 c1 f1 d1 m1 e1 g1 _ (r1.top2 _ _) (s1.top2 _ _) hn1 hm1).mono ?_
      rintro e w1 ⟨rfl, q, rfl⟩
      rw [Q1.out]
      go_wp2_with fail
      refine (sameI a2 n2 c2 f2 d2 m2 e2 g2 _ ((r2.top2 _ _).topq _) ((s2.top2 _ _).topq _) hn2 hm2).mono ?_
      rintro e w1 ⟨rfl, q, rfl⟩
      rw [Q2.out]
      go_wp2
      go_ret
      exact ⟨ret_bool hr.symm, below_dn (by go_grown) _⟩
theorem samePath_self (a1 a2 d1 d2 : Option Addr) (n1 c1 n2 c2 e1 e2 : Nat) (f1 f2 : Nat → Int) (w : World) (r1 : Rn w w.heap.size a1 n1 f1) (r2 : Rn w w.heap.size a2 n2 f2) (s1 : Rn w w.heap.size d1 n1 f1) (s2 : Rn w w.heap.size d2 n2 f2)
    (hn1 : n1 ≤ 1099511627776) (hn2 : n2 ≤ 1099511627776) :
    Calls Try.prog 31 #[.agg #[.slice a1 n1 c1, .slice a2 n2 c2], .agg #[.slice d1 n1 e1, .slice d2 n2 e2]] w fun e w' => e = .returned (.bool true) ∧ Below w.heap.size w w' :=
  (sameP a1 a2 d1 d2 n1 c1 n2 c2 n1 e1 n2 e2 f1 f2 f1 f2 w r1 r2 s1 s2 hn1 hn2 hn1 hn2).mono fun _ _ ⟨he, hw⟩ => ⟨by rw [he, eqP_self], hw⟩
theorem sameI_b (A E : Option Addr) (n c d : Nat) (f : Nat → Int) (w : World) (h : Rn w w.heap.size A n f) (h2 : Rn w w.heap.size E n f) (hn : n ≤ 1048576) :
    Calls Try.prog 22 #[.slice A n c, .slice E n d] w fun e w' => e = .returned (.bool true) ∧ Below w.heap.size w w' :=
  (sameI A n c f E n d f w h h2 (by omega) (by omega)).mono fun _ _ ⟨he, q, hq⟩ => ⟨by rw [he, eqI_self], by rw [hq]; exact below_dn (Below.refl _ _) q⟩
theorem psRn_two {W : World} {b n1 c1 n2 c2 m1 d1 m2 d2 : Nat} {a1 a2 b1 b2 : Option Addr} {f1 f2 g1 g2 : Nat → Int} (h : Bx W b [.slice a1 n1 c1, .slice a2 n2 c2, .slice b1 m1 d1, .slice b2 m2 d2]) (r1 : Rn W W.heap.size a1 n1 f1) (r2 : Rn W W.heap.size a2 n2 f2) (r3 : Rn W W.heap.size b1 m1 g1) (r4 : Rn W W.heap.size b2 m2 g2) :
    PsRn W W.heap.size (some ⟨b, 0, none⟩) 2 (fun i => if i = 0 then ⟨n1, f1, n2, f2⟩ else ⟨m1, g1, m2, g2⟩) := fun _ => by
  refine ⟨b, 0, rfl, h.lt, fun i hi => ?_⟩
  rcases (show i = 0 ∨ i = 1 by omega) with rfl | rfl
  · exact ⟨a1, c1, a2, c2, h.cell (i := 0) (by simp), h.cell (i := 1) (by simp), r1, r2⟩
  · exact ⟨b1, d1, b2, d2, h.cell (i := 2) (by simp), h.cell (i := 3) (by simp), r3, r4⟩
/-- How long a train stands. -/
def stands (f g : Nat → Int) : Nat → Int
  | 0 => 0
  | k + 1 => stands f g k + (f (k + 1) - g k)
theorem stands_bd {n : Int} {p : PD} (h : pathV n p = true) : ∀ k : Nat, (k : Int) < n → 0 ≤ stands p.f1 p.f2 k ∧ stands p.f1 p.f2 k ≤ 2000 * k := by
  intro k
  induction k with
  | zero => intro _; simp [stands]
  | succ k ih =>
    intro hk
    have h1 := ih (by omega)
    obtain ⟨_, _, _, _, ht⟩ := pathV_iff.1 h
    have h2 := pathV_times h (k := k) (by omega)
    have h3 := pathV_times h (k := k + 1) hk
    have h4 := (ht (k + 1) (by omega)).1
    simp only [pv] at h4
    simp only [stands]
    omega
theorem stands_late (f g : Nat → Int) (k : Int) : ∀ i, stands (fun j => f j + k) (fun j => g j + k) i = stands f g i := by
  intro i
  induction i with
  | zero => rfl
  | succ i ih => simp only [stands, ih]; omega
set_option maxHeartbeats 1000000 in
theorem iStands (a1 a2 : Option Addr) (s c1 c2 : Nat) (f1 f2 : Nat → Int) (w : World) (r1 : Rn w w.heap.size a1 (s + 1) f1) (r2 : Rn w w.heap.size a2 (s + 1) f2) (hv : pathV (s + 1 : Nat) ⟨s + 1, f1, s + 1, f2⟩ = true) :
    Calls Try.prog 32 #[.int .i64 ((s + 1 : Nat) : Int), .agg #[.slice a1 (s + 1) c1, .slice a2 (s + 1) c2]] w fun e w' => e = .returned (.int .i64 (stands f1 f2 s)) ∧ Below w.heap.size w w' := by
  have R1 := Lib.hid (r1.top (.cells #[.slice a1 (s + 1) c1, .slice a2 (s + 1) c2] 31))
  have R2 := Lib.hid (r2.top (.cells #[.slice a1 (s + 1) c1, .slice a2 (s + 1) c2] 31))
  have P := Lib.hid hv
  have hx := Bx.new w [.slice a1 (s + 1) c1, .slice a2 (s + 1) c2] 31
  have x0 := hx.cell (i := 0) (by simp)
  have x1 := hx.cell (i := 1) (by simp)
  simp only [List.getElem_cons_zero, List.getElem_cons_succ] at x0 x1
  have hb0 : Below w.heap.size w (w.alloc (.cells #[.slice a1 (s + 1) c1, .slice a2 (s + 1) c2] 31)) := by go_grown
  have hlx := hx.lt
  have hn := pathV_iff.1 hv
  have hs4 : s + 1 ≤ 5 := by omega
  clear r1 r2 hv hn
  go_enter Try.func32, Try.ntmps32
  go_wp2_with fail
  generalize hW : w.alloc (.cells #[.slice a1 (s + 1) c1, .slice a2 (s + 1) c2] 31) = W at *
  clear hW
  refine (iValid_is true w.heap.size 0 a1 a2 (s + 1) c1 (s + 1) c2 f1 f2 (s + 1 : Nat) _ P.out x0 x1 R1.out R2.out).mono ?_
  rintro e w1 ⟨rfl, q0, rfl⟩
  go_wp2_with fail
  go_loopw [5, 6] (fun v i wr => ∃ (t : Nat) (u : Int), t ≤ s ∧ i = .int .i64 ((t : Int) + 1) ∧ v = .int .i64 u ∧ Hid (stands f1 f2 t = u) ∧ (0 ≤ u ∧ u ≤ 2000 * t) ∧ ∃ q, wr = W.drewN q) (fun _ i _ => s + 1 - (intOf i).toNat)
  case atStart => exact ⟨0, 0, by omega, by simp, rfl, rfl, by omega, q0, rfl⟩
  case round =>
    obtain ⟨t, u, ht, rfl, rfl, hU, hu, q, rfl⟩ := hrel
    by_cases hlt : t < s
    · have hp := P.out
      have hb1 := (pathV_times hp (k := t + 1) (by omega))
      have hb2 := (pathV_times hp (k := t) (by omega))
      have hb3 := stands_bd hp (t + 1) (by omega)
      have hst : stands f1 f2 (t + 1) = u + (f1 (t + 1) - f2 t) := by rw [stands, hU.out]
      simp only at hb1 hb2 hb3
      rw [hst] at hb3
      have HS := Lib.hid hst
      obtain ⟨e1, o1, rfl, hd1, hc1⟩ := R1.out (by omega)
      obtain ⟨e2, o2, rfl, hd2, hc2⟩ := R2.out (by omega)
      have z1 := hc1 (t + 1) (by omega)
      have z2 := hc2 t (by omega)
      generalize f1 (t + 1) = a at *
      generalize f2 t = b at *
      have j0 : (0 : Int) ≤ (t : Int) := by omega
      have j1 : (t : Int) < (s : Int) + 1 := by omega
      have j2 : (0 : Int) ≤ (t : Int) + 1 := by omega
      have j3 : (t : Int) + 1 < (s : Int) + 1 := by omega
      have j4 : t + 1 < s + 1 := by omega
      have j5 : t < s + 1 := by omega
      have y1 : IntKind.i64.wrap (a - b) = a - b := IntWalk.i64_in _ (by omega)
      have y2 : IntKind.i64.wrap (u + (a - b)) = u + (a - b) := IntWalk.i64_in _ (by omega)
      have y3 : IntKind.i64.wrap ((t : Int) + 1 - 1) = (t : Int) := by rw [show (t : Int) + 1 - 1 = t by omega]; exact IntWalk.i64_in _ (by omega)
      have y4 : IntKind.i64.wrap (t : Int) = (t : Int) := IntWalk.i64_in _ (by omega)
      clear hst hc1 hc2 hp hb1 hb2 hU
      go_wp2
      go_quiet (fail)
      clear y1 y2 y3 y4
      go_wp2
      go_roundw
      case rel => exact ⟨t + 1, _, by omega, by go_num, rfl, HS, by omega, _, rfl⟩
      case measure => simp [intOf]; omega
    · obtain rfl : t = s := by omega
      have hr := hide hU.out
      clear hU x0 x1 hx
      go_wp2
      go_ret
      exact ⟨ret_int hr.out.symm, below_dn hb0 _⟩
end Go.Proofs.Ytjppkcfbhhjniaa
