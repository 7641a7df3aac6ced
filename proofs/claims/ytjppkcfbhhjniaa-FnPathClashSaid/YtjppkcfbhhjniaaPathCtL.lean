/-
  The walk of FnPathClash.
-/
import Derived.Test.YtjppkcfbhhjniaaDrawPc
import Derived.Test.YtjppkcfbhhjniaaLawS
import Derived.Test.YtjppkcfbhhjniaaPathFq
import Derived.Test.YtjppkcfbhhjniaaPathSec
namespace Go.Proofs.Ytjppkcfbhhjniaa
open Go.RowKit Go.Deep
set_option linter.unusedVariables false

/-- A list of numbers has been made. -/
def IntsOut (w : World) (xs : List Int) (e : Ending) (w' : World) : Prop :=
  ∃ (A : Option Addr) (c : Nat), e = .returned (.slice A xs.length c) ∧ (∃ b, (0 < xs.length → w.heap.size ≤ b ∧ b < w'.heap.size) ∧ Ow w' b A xs.length (fun i => xs.getD i 0)) ∧ Below w.heap.size w w'
theorem IntsRes.outI {w : World} {xs : List Int} {e : Ending} {w' : World} (h : IntsRes w xs e w') : IntsOut w xs e w' := by
  obtain ⟨g, c, he, hg, hc, ho, hb⟩ := h
  exact ⟨_, c, he, ⟨g, fun _ => hg, ho⟩, hb⟩
theorem sameI_b (A E : Option Addr) (n c d : Nat) (f : Nat → Int) (w : World) (h : Rn w w.heap.size A n f) (h2 : Rn w w.heap.size E n f) (hn : n ≤ 1048576) :
    Calls Try.prog 22 #[.slice A n c, .slice E n d] w fun e w' => e = .returned (.bool true) ∧ Below w.heap.size w w' :=
  (sameI A n c f E n d f w h h2 (by omega) (by omega)).mono fun _ _ ⟨he, q, hq⟩ => ⟨by rw [he, eqI_self], by rw [hq]; exact below_dn (Below.refl _ _) q⟩
theorem psRn_two {W : World} {b n1 c1 n2 c2 m1 d1 m2 d2 : Nat} {a1 a2 b1 b2 : Option Addr} {f1 f2 g1 g2 : Nat → Int} (h : Bx W b [.slice a1 n1 c1, .slice a2 n2 c2, .slice b1 m1 d1, .slice b2 m2 d2]) (r1 : Rn W W.heap.size a1 n1 f1) (r2 : Rn W W.heap.size a2 n2 f2) (r3 : Rn W W.heap.size b1 m1 g1) (r4 : Rn W W.heap.size b2 m2 g2) :
    PsRn W W.heap.size (some ⟨b, 0, none⟩) 2 (fun i => if i = 0 then ⟨n1, f1, n2, f2⟩ else ⟨m1, g1, m2, g2⟩) := fun _ => by
  refine ⟨b, 0, rfl, h.lt, fun i hi => ?_⟩
  rcases (show i = 0 ∨ i = 1 by omega) with rfl | rfl
  · exact ⟨a1, c1, a2, c2, h.cell (i := 0) (by simp), h.cell (i := 1) (by simp), r1, r2⟩
  · exact ⟨b1, d1, b2, d2, h.cell (i := 2) (by simp), h.cell (i := 3) (by simp), r3, r4⟩
theorem clashT_late (a b : PD) (k : Int) (m : Nat) : clashT (lateD k a) (lateD k b) m = clashT a b m := by
  unfold clashT
  congr 1
  refine List.filter_congr fun j _ => ?_
  unfold clash lateD
  simp only
  congr 1
  · exact decide_eq_decide.2 (by omega)
  · exact decide_eq_decide.2 (by omega)
theorem clashT_self {n : Int} {a : PD} (h : pathV n a = true) : ∀ m : Nat, (m : Int) ≤ n → (clashT a a m).length = m := by
  intro m
  induction m with
  | zero => intro _; rfl
  | succ m ih =>
    intro hm
    have ht := pathV_times h (k := m) (by omega)
    rw [clashT_yes (by unfold clash; simp; omega), List.length_append, ih (by omega)]
    rfl
set_option maxHeartbeats 4000000 in
theorem y_FnPathClash (a0 : Option Addr) (len0 cap0 : Nat) (w : World) (hA : BytesAt w.heap.size w a0 len0) (hl : len0 ≤ 1048576) (hc : len0 ≤ cap0) (hm : cap0 ≤ 9223372036854775807) :
    Calls Try.prog 7 #[.slice a0 len0 cap0] w fun e w' => e = .returned (.bool true) ∧ Below w.heap.size w w' := by
  have hAH := Lib.hid hA
  have hd0 : decide ((1048576 : Int) < (len0 : Int)) = false := by simp; omega
  clear hA
  go_enter Try.func7, Try.ntmps7
  go_wp2_with fail
  refine (d_DrawPathClash a0 len0 cap0 w hAH.out hl hc hm).mono ?_
  rintro e wb ⟨n, a1, n1, c1, f1, a2, n2, c2, f2, b1, m1, d1, g1, b2, m2, d2, g2, rfl, hn, ⟨hn1, hn2, hm1, hm2⟩, r1, r2, r3, r4, hb⟩
  clear hc hm hAH hl hd0
  have HB := Lib.hid hb
  by_cases hno : clashL n ⟨n1, f1, n2, f2⟩ ⟨m1, g1, m2, g2⟩ = []
  · have CI : Hid (∀ (W : World) (A1 : Option Addr) (e1 : Nat) (A2 : Option Addr) (e2 : Nat) (A3 : Option Addr) (e3 : Nat) (A4 : Option Addr) (e4 : Nat), Rn W W.heap.size A1 n1 f1 → Rn W W.heap.size A2 n2 f2 → Rn W W.heap.size A3 m1 g1 → Rn W W.heap.size A4 m2 g2 → Calls Try.prog 34 #[.int .i64 (n : Int), .agg #[.slice A1 n1 e1, .slice A2 n2 e2], .agg #[.slice A3 m1 e3, .slice A4 m2 e4]] W (IntsOut W [])) := fun W A1 e1 A2 e2 A3 e3 A4 e4 p1 p2 p3 p4 => by have := (iPathClash A1 A2 A3 A4 n1 e1 n2 e2 m1 e3 m2 e4 f1 f2 g1 g2 n W p1 p2 p3 p4).mono fun _ _ h => IntsRes.outI h; rwa [hno] at this
    have CS : Hid (∀ (W : World) (A1 : Option Addr) (e1 : Nat) (A2 : Option Addr) (e2 : Nat) (A3 : Option Addr) (e3 : Nat) (A4 : Option Addr) (e4 : Nat), Rn W W.heap.size A1 n1 f1 → Rn W W.heap.size A2 n2 f2 → Rn W W.heap.size A3 m1 g1 → Rn W W.heap.size A4 m2 g2 → Calls Try.prog 35 #[.int .i64 (n : Int), .agg #[.slice A1 n1 e1, .slice A2 n2 e2], .agg #[.slice A3 m1 e3, .slice A4 m2 e4]] W (IntsOut W [])) := fun W A1 e1 A2 e2 A3 e3 A4 e4 p1 p2 p3 p4 => by have := (sPathClash A1 A2 A3 A4 n1 e1 n2 e2 m1 e3 m2 e4 f1 f2 g1 g2 n W p1 p2 p3 p4).mono fun _ _ h => IntsRes.outI h; rwa [hno] at this
    clear hno
    have B0 : Below wb.heap.size wb wb := Below.refl _ _
    have H0 : Hold wb [rnA wb.heap.size a1 n1 f1, rnA wb.heap.size a2 n2 f2, rnA wb.heap.size b1 m1 g1, rnA wb.heap.size b2 m2 g2] := ((((Hold.nil wb).rn (Nat.le_refl _) r4).rn (Nat.le_refl _) r3).rn (Nat.le_refl _) r2).rn (Nat.le_refl _) r1
    clear r1 r2 r3 r4 hb
    go_wp2_with fail
    refine (CI.out _ _ _ _ _ _ _ _ _ ((H0.rnup.top _).top _) ((H0.tl.rnup.top _).top _) ((H0.tl.tl.rnup.top _).top _) ((H0.tl.tl.tl.rnup.top _).top _)).mono ?_
    rintro e w1 ⟨AO, kO, rfl, ho, hn⟩
    have H1 := ((H0.new [.slice a1 n1 c1, .slice a2 n2 c2] 31).new [.slice b1 m1 d1, .slice b2 m2 d2] 31).call hn
    simp only [World.size_alloc] at H1
    have B1 : Below wb.heap.size wb w1 := bl (by go_grown) (by first | exact Nat.le_refl _ | (simp; done) | (simp; omega)) hn
    have s1 : wb.heap.size + 1 + 1 ≤ w1.heap.size := by have := hn.size; simpa using this
    (try simp only [World.size_alloc] at ho)
    have H1 := H1.ow (Nat.le_refl _) ho
    clear hn ho
    clear H0
    obtain ⟨xQ1, yQ1⟩ := H1.tl.bx2
    have lQ1 := H1.tl.bxlt
    obtain ⟨xP1, yP1⟩ := H1.tl.tl.bx2
    have lP1 := H1.tl.tl.bxlt
    go_wp2_with fail
    refine (CS.out _ _ _ _ _ _ _ _ _ H1.tl.tl.tl.rnup H1.tl.tl.tl.tl.rnup H1.tl.tl.tl.tl.tl.rnup H1.tl.tl.tl.tl.tl.tl.rnup).mono ?_
    rintro e w2 ⟨AT, kT, rfl, ho, hn⟩
    have H2 := H1.call hn
    have B2 : Below wb.heap.size wb w2 := bl (by go_grown) (by first | exact Nat.le_refl _ | (simp; done) | (simp; omega)) hn
    have s2 : w1.heap.size ≤ w2.heap.size := by have := hn.size; simpa using this
    (try simp only [World.size_alloc] at ho)
    have H2 := H2.ow (Nat.le_refl _) ho
    clear hn ho
    clear H1
    obtain ⟨xQ2, yQ2⟩ := H2.tl.tl.bx2
    have lQ2 := H2.tl.tl.bxlt
    obtain ⟨xP2, yP2⟩ := H2.tl.tl.tl.bx2
    have lP2 := H2.tl.tl.tl.bxlt
    go_wp2_with fail
    refine (sameI_b _ _ _ _ _ _ _ H2.tl.owrn H2.owrn (by first | omega | simp)).mono ?_
    rintro e w3 ⟨rfl, hn⟩
    have H3 := H2.call hn
    have B3 : Below wb.heap.size wb w3 := bl (by go_grown) (by first | exact Nat.le_refl _ | (simp; done) | (simp; omega)) hn
    have s3 : w2.heap.size ≤ w3.heap.size := by have := hn.size; simpa using this
    clear hn
    clear H2
    obtain ⟨xQ3, yQ3⟩ := H3.tl.tl.bx2
    have lQ3 := H3.tl.tl.bxlt
    obtain ⟨xP3, yP3⟩ := H3.tl.tl.tl.bx2
    have lP3 := H3.tl.tl.tl.bxlt
    go_wp2_with fail
    refine (sameI_b _ _ _ _ _ _ _ H3.tl.owrn H3.owrn (by first | omega | simp)).mono ?_
    rintro e w4 ⟨rfl, hn⟩
    have H4 := H3.call hn
    have B4 : Below wb.heap.size wb w4 := bl (by go_grown) (by first | exact Nat.le_refl _ | (simp; done) | (simp; omega)) hn
    have s4 : w3.heap.size ≤ w4.heap.size := by have := hn.size; simpa using this
    clear hn
    clear H3
    obtain ⟨xQ4, yQ4⟩ := H4.tl.tl.bx2
    have lQ4 := H4.tl.tl.bxlt
    obtain ⟨xP4, yP4⟩ := H4.tl.tl.tl.bx2
    have lP4 := H4.tl.tl.tl.bxlt
    go_wp2
    go_ret
    exact ⟨rfl, bl HB.out (Nat.le_refl _) B4⟩
  have hva : pathV n ⟨n1, f1, n2, f2⟩ = true := by
    cases h : pathV n ⟨n1, f1, n2, f2⟩
    · exact absurd (clashL_no1 h) hno
    · rfl
  have hvb : pathV n ⟨m1, g1, m2, g2⟩ = true := by
    cases h : pathV n ⟨m1, g1, m2, g2⟩
    · exact absurd (clashL_no2 h) hno
    · rfl
  obtain ⟨_, _, x1, x2, _⟩ := pathV_iff.1 hva
  obtain ⟨_, _, x3, x4, _⟩ := pathV_iff.1 hvb
  simp only at x1 x2 x3 x4
  obtain ⟨s, rfl⟩ : ∃ s, n = s + 1 := ⟨n - 1, by omega⟩
  obtain rfl : n1 = s + 1 := by omega
  obtain rfl : n2 = s + 1 := by omega
  obtain rfl : m1 = s + 1 := by omega
  obtain rfl : m2 = s + 1 := by omega
  obtain ⟨L, hL⟩ : ∃ L, clashL ((s + 1 : Nat) : Int) ⟨s + 1, f1, s + 1, f2⟩ ⟨s + 1, g1, s + 1, g2⟩ = L := ⟨_, rfl⟩
  obtain ⟨E, hE⟩ : ∃ E, clashL ((s + 1 : Nat) : Int) ⟨s + 1, f1, s + 1, f2⟩ ⟨s + 1, f1, s + 1, f2⟩ = E := ⟨_, rfl⟩
  have hE1 : E.length = s + 1 := by rw [← hE, clashL_yes hva hva]; exact clashT_self hva _ (by simp)
  have hL1 : 0 < L.length := by rw [hL] at hno; exact List.length_pos_iff.2 hno
  have hL5 : L.length ≤ 5 := by rw [← hL]; exact clashL_len _ _ _
  have hV : pathsV ((s + 1 : Nat) : Int) (fun i => if i = 0 then ⟨s + 1, f1, s + 1, f2⟩ else ⟨s + 1, g1, s + 1, g2⟩) 2 = false := pathsV_no fun x => hno (by have := (x.2.2.2 1 (by omega)).2 0 (by omega); simpa using this)
  have CI : Hid (∀ (W : World) (A1 : Option Addr) (e1 : Nat) (A2 : Option Addr) (e2 : Nat) (A3 : Option Addr) (e3 : Nat) (A4 : Option Addr) (e4 : Nat), Rn W W.heap.size A1 (s + 1) f1 → Rn W W.heap.size A2 (s + 1) f2 → Rn W W.heap.size A3 (s + 1) g1 → Rn W W.heap.size A4 (s + 1) g2 → Calls Try.prog 34 #[.int .i64 ((s : Int) + 1), .agg #[.slice A1 (s + 1) e1, .slice A2 (s + 1) e2], .agg #[.slice A3 (s + 1) e3, .slice A4 (s + 1) e4]] W (IntsOut W L)) := fun W A1 e1 A2 e2 A3 e3 A4 e4 p1 p2 p3 p4 => by have := (iPathClash A1 A2 A3 A4 _ e1 _ e2 _ e3 _ e4 f1 f2 g1 g2 ((s + 1 : Nat) : Int) W p1 p2 p3 p4).mono fun _ _ h => IntsRes.outI h; rwa [hL] at this
  have CS : Hid (∀ (W : World) (A1 : Option Addr) (e1 : Nat) (A2 : Option Addr) (e2 : Nat) (A3 : Option Addr) (e3 : Nat) (A4 : Option Addr) (e4 : Nat), Rn W W.heap.size A1 (s + 1) f1 → Rn W W.heap.size A2 (s + 1) f2 → Rn W W.heap.size A3 (s + 1) g1 → Rn W W.heap.size A4 (s + 1) g2 → Calls Try.prog 35 #[.int .i64 ((s : Int) + 1), .agg #[.slice A1 (s + 1) e1, .slice A2 (s + 1) e2], .agg #[.slice A3 (s + 1) e3, .slice A4 (s + 1) e4]] W (IntsOut W L)) := fun W A1 e1 A2 e2 A3 e3 A4 e4 p1 p2 p3 p4 => by have := (sPathClash A1 A2 A3 A4 _ e1 _ e2 _ e3 _ e4 f1 f2 g1 g2 ((s + 1 : Nat) : Int) W p1 p2 p3 p4).mono fun _ _ h => IntsRes.outI h; rwa [hL] at this
  have CB : Hid (∀ (W : World) (A1 : Option Addr) (e1 : Nat) (A2 : Option Addr) (e2 : Nat) (A3 : Option Addr) (e3 : Nat) (A4 : Option Addr) (e4 : Nat), Rn W W.heap.size A1 (s + 1) g1 → Rn W W.heap.size A2 (s + 1) g2 → Rn W W.heap.size A3 (s + 1) f1 → Rn W W.heap.size A4 (s + 1) f2 → Calls Try.prog 34 #[.int .i64 ((s : Int) + 1), .agg #[.slice A1 (s + 1) e1, .slice A2 (s + 1) e2], .agg #[.slice A3 (s + 1) e3, .slice A4 (s + 1) e4]] W (IntsOut W L)) := fun W A1 e1 A2 e2 A3 e3 A4 e4 p1 p2 p3 p4 => by have := (iPathClash A1 A2 A3 A4 _ e1 _ e2 _ e3 _ e4 g1 g2 f1 f2 ((s + 1 : Nat) : Int) W p1 p2 p3 p4).mono fun _ _ h => IntsRes.outI h; rwa [clashL_comm, hL] at this
  have CA : Hid (∀ (W : World) (A1 : Option Addr) (e1 : Nat) (A2 : Option Addr) (e2 : Nat) (A3 : Option Addr) (e3 : Nat) (A4 : Option Addr) (e4 : Nat), Rn W W.heap.size A1 (s + 1) f1 → Rn W W.heap.size A2 (s + 1) f2 → Rn W W.heap.size A3 (s + 1) f1 → Rn W W.heap.size A4 (s + 1) f2 → Calls Try.prog 34 #[.int .i64 ((s : Int) + 1), .agg #[.slice A1 (s + 1) e1, .slice A2 (s + 1) e2], .agg #[.slice A3 (s + 1) e3, .slice A4 (s + 1) e4]] W (IntsOut W E)) := fun W A1 e1 A2 e2 A3 e3 A4 e4 p1 p2 p3 p4 => by have := (iPathClash A1 A2 A3 A4 _ e1 _ e2 _ e3 _ e4 f1 f2 f1 f2 ((s + 1 : Nat) : Int) W p1 p2 p3 p4).mono fun _ _ h => IntsRes.outI h; rwa [hE] at this
  have VP : Hid (∀ (W : World) (A : Option Addr) (c : Nat), PsRn W W.heap.size A 2 (fun i => if i = 0 then ⟨s + 1, f1, s + 1, f2⟩ else ⟨s + 1, g1, s + 1, g2⟩) → Calls Try.prog 27 #[.int .i64 ((s : Int) + 1), .slice A 2 c] W fun e w' => e = .returned (.bool false) ∧ Below W.heap.size W w') := fun W A c h => iPathsV_is false A 2 c _ ((s + 1 : Nat) : Int) W hV h (by omega)
  have dE : ((E.length : Int) == (s : Int) + 1) = true := beq_iff_eq.2 (by omega)
  have dL : ((L.length : Int) == 0) = false := beq_eq_false_iff_ne.2 (by omega)
  have e1 : E.length ≤ 1048576 := by omega
  clear hE1 hV
  cases qa : pathV ((s + 1 : Nat) : Int) (lateD 7 ⟨s + 1, f1, s + 1, f2⟩)
  · have LA : Hid (∀ (W : World) (A : Option Addr) (c : Nat) (B : Option Addr) (d : Nat), Rn W W.heap.size A (s + 1) f1 → Rn W W.heap.size B (s + 1) f2 → Calls Try.prog 29 #[.int .i64 ((s : Int) + 1), .agg #[.slice A (s + 1) c, .slice B (s + 1) d], .int .i64 7] W (NoPath W)) := fun W A c B d p q => iLate_go false A B (s + 1) c d f1 f2 7 W p q hva (by omega) qa
    cases qb : pathV ((s + 1 : Nat) : Int) (lateD 7 ⟨s + 1, g1, s + 1, g2⟩)
    · have LB : Hid (∀ (W : World) (A : Option Addr) (c : Nat) (B : Option Addr) (d : Nat), Rn W W.heap.size A (s + 1) g1 → Rn W W.heap.size B (s + 1) g2 → Calls Try.prog 29 #[.int .i64 ((s : Int) + 1), .agg #[.slice A (s + 1) c, .slice B (s + 1) d], .int .i64 7] W (NoPath W)) := fun W A c B d p q => iLate_go false A B (s + 1) c d g1 g2 7 W p q hvb (by omega) qb
      clear hno hva hvb x1 x2 x3 x4 hL hE qa qb
      have B0 : Below wb.heap.size wb wb := Below.refl _ _
      have H0 : Hold wb [rnA wb.heap.size a1 (s + 1) f1, rnA wb.heap.size a2 (s + 1) f2, rnA wb.heap.size b1 (s + 1) g1, rnA wb.heap.size b2 (s + 1) g2] := ((((Hold.nil wb).rn (Nat.le_refl _) r4).rn (Nat.le_refl _) r3).rn (Nat.le_refl _) r2).rn (Nat.le_refl _) r1
      clear r1 r2 r3 r4 hb
      go_wp2_with fail
      refine (CI.out _ _ _ _ _ _ _ _ _ ((H0.rnup.top _).top _) ((H0.tl.rnup.top _).top _) ((H0.tl.tl.rnup.top _).top _) ((H0.tl.tl.tl.rnup.top _).top _)).mono ?_
      rintro e w1 ⟨AO, kO, rfl, ho, hn⟩
      have H1 := ((H0.new [.slice a1 (s + 1) c1, .slice a2 (s + 1) c2] 31).new [.slice b1 (s + 1) d1, .slice b2 (s + 1) d2] 31).call hn
      simp only [World.size_alloc] at H1
      have B1 : Below wb.heap.size wb w1 := bl (by go_grown) (by first | exact Nat.le_refl _ | (simp; done) | (simp; omega)) hn
      have s1 : wb.heap.size + 1 + 1 ≤ w1.heap.size := by have := hn.size; simpa using this
      (try simp only [World.size_alloc] at ho)
      have H1 := H1.ow (Nat.le_refl _) ho
      clear hn ho
      clear H0
      obtain ⟨xQ1, yQ1⟩ := H1.tl.bx2
      have lQ1 := H1.tl.bxlt
      obtain ⟨xP1, yP1⟩ := H1.tl.tl.bx2
      have lP1 := H1.tl.tl.bxlt
      go_wp2_with fail
      refine (CS.out _ _ _ _ _ _ _ _ _ H1.tl.tl.tl.rnup H1.tl.tl.tl.tl.rnup H1.tl.tl.tl.tl.tl.rnup H1.tl.tl.tl.tl.tl.tl.rnup).mono ?_
      rintro e w2 ⟨AT, kT, rfl, ho, hn⟩
      have H2 := H1.call hn
      have B2 : Below wb.heap.size wb w2 := bl (by go_grown) (by first | exact Nat.le_refl _ | (simp; done) | (simp; omega)) hn
      have s2 : w1.heap.size ≤ w2.heap.size := by have := hn.size; simpa using this
      (try simp only [World.size_alloc] at ho)
      have H2 := H2.ow (Nat.le_refl _) ho
      clear hn ho
      clear H1
      obtain ⟨xQ2, yQ2⟩ := H2.tl.tl.bx2
      have lQ2 := H2.tl.tl.bxlt
      obtain ⟨xP2, yP2⟩ := H2.tl.tl.tl.bx2
      have lP2 := H2.tl.tl.tl.bxlt
      go_wp2_with fail
      refine (sameI_b _ _ _ _ _ _ _ H2.tl.owrn H2.owrn (by first | omega | simp)).mono ?_
      rintro e w3 ⟨rfl, hn⟩
      have H3 := H2.call hn
      have B3 : Below wb.heap.size wb w3 := bl (by go_grown) (by first | exact Nat.le_refl _ | (simp; done) | (simp; omega)) hn
      have s3 : w2.heap.size ≤ w3.heap.size := by have := hn.size; simpa using this
      clear hn
      clear H2
      obtain ⟨xQ3, yQ3⟩ := H3.tl.tl.bx2
      have lQ3 := H3.tl.tl.bxlt
      obtain ⟨xP3, yP3⟩ := H3.tl.tl.tl.bx2
      have lP3 := H3.tl.tl.tl.bxlt
      go_wp2_with fail
      refine (LA.out _ _ _ _ _ H3.tl.tl.tl.tl.rnup H3.tl.tl.tl.tl.tl.rnup).mono ?_
      rintro e w4 ⟨rfl, hn⟩
      have H4 := H3.call hn
      have B4 : Below wb.heap.size wb w4 := bl (by go_grown) (by first | exact Nat.le_refl _ | (simp; done) | (simp; omega)) hn
      have s4 : w3.heap.size ≤ w4.heap.size := by have := hn.size; simpa using this
      clear hn
      clear H3
      obtain ⟨xQ4, yQ4⟩ := H4.tl.tl.bx2
      have lQ4 := H4.tl.tl.bxlt
      obtain ⟨xP4, yP4⟩ := H4.tl.tl.tl.bx2
      have lP4 := H4.tl.tl.tl.bxlt
      go_wp2_with fail
      refine (LB.out _ _ _ _ _ (H4.tl.tl.tl.tl.tl.tl.rnup.top _) (H4.tl.tl.tl.tl.tl.tl.tl.rnup.top _)).mono ?_
      rintro e w5 ⟨rfl, hn⟩
      have H5 := (H4.new [.slice none 0 0, .slice none 0 0] 31).call hn
      have B5 : Below wb.heap.size wb w5 := bl (by go_grown) (by first | exact Nat.le_refl _ | (simp; done) | (simp; omega)) hn
      have s5 : w4.heap.size + 1 ≤ w5.heap.size := by have := hn.size; simpa using this
      clear hn
      clear H4
      obtain ⟨xx5, yx5⟩ := H5.bx2
      have lx5 := H5.bxlt
      obtain ⟨xQ5, yQ5⟩ := H5.tl.tl.tl.bx2
      have lQ5 := H5.tl.tl.tl.bxlt
      obtain ⟨xP5, yP5⟩ := H5.tl.tl.tl.tl.bx2
      have lP5 := H5.tl.tl.tl.tl.bxlt
      go_wp2_with fail
      refine (CA.out _ _ _ _ _ _ _ _ _ (H5.tl.tl.tl.tl.tl.rnup.top _) (H5.tl.tl.tl.tl.tl.tl.rnup.top _) (H5.tl.tl.tl.tl.tl.rnup.top _) (H5.tl.tl.tl.tl.tl.tl.rnup.top _)).mono ?_
      rintro e w6 ⟨AE, kE, rfl, ho, hn⟩
      have H6 := (H5.new [.slice none 0 0, .slice none 0 0] 31).call hn
      have B6 : Below wb.heap.size wb w6 := bl (by go_grown) (by first | exact Nat.le_refl _ | (simp; done) | (simp; omega)) hn
      have s6 : w5.heap.size + 1 ≤ w6.heap.size := by have := hn.size; simpa using this
      (try simp only [World.size_alloc] at ho)
      have H6 := H6.ow (Nat.le_refl _) ho
      clear hn ho
      clear H5
      obtain ⟨xy6, yy6⟩ := H6.tl.bx2
      have ly6 := H6.tl.bxlt
      obtain ⟨xx6, yx6⟩ := H6.tl.tl.bx2
      have lx6 := H6.tl.tl.bxlt
      obtain ⟨xQ6, yQ6⟩ := H6.tl.tl.tl.tl.tl.bx2
      have lQ6 := H6.tl.tl.tl.tl.tl.bxlt
      obtain ⟨xP6, yP6⟩ := H6.tl.tl.tl.tl.tl.tl.bx2
      have lP6 := H6.tl.tl.tl.tl.tl.tl.bxlt
      go_wp2_with fail
      refine (CB.out _ _ _ _ _ _ _ _ _ H6.tl.tl.tl.tl.tl.tl.tl.tl.tl.rnup H6.tl.tl.tl.tl.tl.tl.tl.tl.tl.tl.rnup H6.tl.tl.tl.tl.tl.tl.tl.rnup H6.tl.tl.tl.tl.tl.tl.tl.tl.rnup).mono ?_
      rintro e w7 ⟨AF, kF, rfl, ho, hn⟩
      have H7 := H6.call hn
      have B7 : Below wb.heap.size wb w7 := bl (by go_grown) (by first | exact Nat.le_refl _ | (simp; done) | (simp; omega)) hn
      have s7 : w6.heap.size ≤ w7.heap.size := by have := hn.size; simpa using this
      (try simp only [World.size_alloc] at ho)
      have H7 := H7.ow (Nat.le_refl _) ho
      clear hn ho
      clear H6
      obtain ⟨xy7, yy7⟩ := H7.tl.tl.bx2
      have ly7 := H7.tl.tl.bxlt
      obtain ⟨xx7, yx7⟩ := H7.tl.tl.tl.bx2
      have lx7 := H7.tl.tl.tl.bxlt
      obtain ⟨xQ7, yQ7⟩ := H7.tl.tl.tl.tl.tl.tl.bx2
      have lQ7 := H7.tl.tl.tl.tl.tl.tl.bxlt
      obtain ⟨xP7, yP7⟩ := H7.tl.tl.tl.tl.tl.tl.tl.bx2
      have lP7 := H7.tl.tl.tl.tl.tl.tl.tl.bxlt
      go_wp2_with fail
      refine (sameI_b _ _ _ _ _ _ _ H7.owrn H7.tl.tl.tl.tl.tl.owrn (by first | omega | simp)).mono ?_
      rintro e w8 ⟨rfl, hn⟩
      have H8 := H7.call hn
      have B8 : Below wb.heap.size wb w8 := bl (by go_grown) (by first | exact Nat.le_refl _ | (simp; done) | (simp; omega)) hn
      have s8 : w7.heap.size ≤ w8.heap.size := by have := hn.size; simpa using this
      clear hn
      clear H7
      obtain ⟨xy8, yy8⟩ := H8.tl.tl.bx2
      have ly8 := H8.tl.tl.bxlt
      obtain ⟨xx8, yx8⟩ := H8.tl.tl.tl.bx2
      have lx8 := H8.tl.tl.tl.bxlt
      obtain ⟨xQ8, yQ8⟩ := H8.tl.tl.tl.tl.tl.tl.bx2
      have lQ8 := H8.tl.tl.tl.tl.tl.tl.bxlt
      obtain ⟨xP8, yP8⟩ := H8.tl.tl.tl.tl.tl.tl.tl.bx2
      have lP8 := H8.tl.tl.tl.tl.tl.tl.tl.bxlt
      have HL := Lib.hid H8
      have bx := Bx.new w8 [.slice a1 (s + 1) c1, .slice a2 (s + 1) c2, .slice b1 (s + 1) d1, .slice b2 (s + 1) d2] 31
      have ps := psRn_two bx ((H8.tl.tl.tl.tl.tl.tl.tl.tl.rnup).top _) ((H8.tl.tl.tl.tl.tl.tl.tl.tl.tl.rnup).top _) ((H8.tl.tl.tl.tl.tl.tl.tl.tl.tl.tl.rnup).top _) ((H8.tl.tl.tl.tl.tl.tl.tl.tl.tl.tl.tl.rnup).top _)
      have PSH := Lib.hid ps
      clear ps bx
      go_wp2_with fail
      refine (VP.out _ _ _ PSH.out).mono ?_
      rintro e wz ⟨rfl, hn⟩
      have Bz : Below wb.heap.size wb wz := bl (show Below wb.heap.size wb (w8.alloc (.cells #[.slice a1 (s + 1) c1, .slice a2 (s + 1) c2, .slice b1 (s + 1) d1, .slice b2 (s + 1) d2] 31)) by have := B8.size; go_grown) (Nat.le_refl _) hn
      clear hn PSH HL
      go_wp2
      go_ret
      exact ⟨rfl, bl HB.out (Nat.le_refl _) Bz⟩
    · have LB : Hid (∀ (W : World) (A : Option Addr) (c : Nat) (B : Option Addr) (d : Nat), Rn W W.heap.size A (s + 1) g1 → Rn W W.heap.size B (s + 1) g2 → Calls Try.prog 29 #[.int .i64 ((s : Int) + 1), .agg #[.slice A (s + 1) c, .slice B (s + 1) d], .int .i64 7] W (PathRes W true (s + 1) (fun j => g1 j + 7) (s + 1) (fun j => g2 j + 7))) := fun W A c B d p q => iLate_go true A B (s + 1) c d g1 g2 7 W p q hvb (by omega) qb
      clear hno hva hvb x1 x2 x3 x4 hL hE qa qb
      have B0 : Below wb.heap.size wb wb := Below.refl _ _
      have H0 : Hold wb [rnA wb.heap.size a1 (s + 1) f1, rnA wb.heap.size a2 (s + 1) f2, rnA wb.heap.size b1 (s + 1) g1, rnA wb.heap.size b2 (s + 1) g2] := ((((Hold.nil wb).rn (Nat.le_refl _) r4).rn (Nat.le_refl _) r3).rn (Nat.le_refl _) r2).rn (Nat.le_refl _) r1
      clear r1 r2 r3 r4 hb
      go_wp2_with fail
      refine (CI.out _ _ _ _ _ _ _ _ _ ((H0.rnup.top _).top _) ((H0.tl.rnup.top _).top _) ((H0.tl.tl.rnup.top _).top _) ((H0.tl.tl.tl.rnup.top _).top _)).mono ?_
      rintro e w1 ⟨AO, kO, rfl, ho, hn⟩
      have H1 := ((H0.new [.slice a1 (s + 1) c1, .slice a2 (s + 1) c2] 31).new [.slice b1 (s + 1) d1, .slice b2 (s + 1) d2] 31).call hn
      simp only [World.size_alloc] at H1
      have B1 : Below wb.heap.size wb w1 := bl (by go_grown) (by first | exact Nat.le_refl _ | (simp; done) | (simp; omega)) hn
      have s1 : wb.heap.size + 1 + 1 ≤ w1.heap.size := by have := hn.size; simpa using this
      (try simp only [World.size_alloc] at ho)
      have H1 := H1.ow (Nat.le_refl _) ho
      clear hn ho
      clear H0
      obtain ⟨xQ1, yQ1⟩ := H1.tl.bx2
      have lQ1 := H1.tl.bxlt
      obtain ⟨xP1, yP1⟩ := H1.tl.tl.bx2
      have lP1 := H1.tl.tl.bxlt
      go_wp2_with fail
      refine (CS.out _ _ _ _ _ _ _ _ _ H1.tl.tl.tl.rnup H1.tl.tl.tl.tl.rnup H1.tl.tl.tl.tl.tl.rnup H1.tl.tl.tl.tl.tl.tl.rnup).mono ?_
      rintro e w2 ⟨AT, kT, rfl, ho, hn⟩
      have H2 := H1.call hn
      have B2 : Below wb.heap.size wb w2 := bl (by go_grown) (by first | exact Nat.le_refl _ | (simp; done) | (simp; omega)) hn
      have s2 : w1.heap.size ≤ w2.heap.size := by have := hn.size; simpa using this
      (try simp only [World.size_alloc] at ho)
      have H2 := H2.ow (Nat.le_refl _) ho
      clear hn ho
      clear H1
      obtain ⟨xQ2, yQ2⟩ := H2.tl.tl.bx2
      have lQ2 := H2.tl.tl.bxlt
      obtain ⟨xP2, yP2⟩ := H2.tl.tl.tl.bx2
      have lP2 := H2.tl.tl.tl.bxlt
      go_wp2_with fail
      refine (sameI_b _ _ _ _ _ _ _ H2.tl.owrn H2.owrn (by first | omega | simp)).mono ?_
      rintro e w3 ⟨rfl, hn⟩
      have H3 := H2.call hn
      have B3 : Below wb.heap.size wb w3 := bl (by go_grown) (by first | exact Nat.le_refl _ | (simp; done) | (simp; omega)) hn
      have s3 : w2.heap.size ≤ w3.heap.size := by have := hn.size; simpa using this
      clear hn
      clear H2
      obtain ⟨xQ3, yQ3⟩ := H3.tl.tl.bx2
      have lQ3 := H3.tl.tl.bxlt
      obtain ⟨xP3, yP3⟩ := H3.tl.tl.tl.bx2
      have lP3 := H3.tl.tl.tl.bxlt
      go_wp2_with fail
      refine (LA.out _ _ _ _ _ H3.tl.tl.tl.tl.rnup H3.tl.tl.tl.tl.tl.rnup).mono ?_
      rintro e w4 ⟨rfl, hn⟩
      have H4 := H3.call hn
      have B4 : Below wb.heap.size wb w4 := bl (by go_grown) (by first | exact Nat.le_refl _ | (simp; done) | (simp; omega)) hn
      have s4 : w3.heap.size ≤ w4.heap.size := by have := hn.size; simpa using this
      clear hn
      clear H3
      obtain ⟨xQ4, yQ4⟩ := H4.tl.tl.bx2
      have lQ4 := H4.tl.tl.bxlt
      obtain ⟨xP4, yP4⟩ := H4.tl.tl.tl.bx2
      have lP4 := H4.tl.tl.tl.bxlt
      go_wp2_with fail
      refine (LB.out _ _ _ _ _ (H4.tl.tl.tl.tl.tl.tl.rnup.top _) (H4.tl.tl.tl.tl.tl.tl.tl.rnup.top _)).mono ?_
      rintro e w5 ⟨aY, cY, bY, dY, rfl, ho, hn⟩
      have H5 := (H4.new [.slice none 0 0, .slice none 0 0] 31).call hn
      have B5 : Below wb.heap.size wb w5 := bl (by go_grown) (by first | exact Nat.le_refl _ | (simp; done) | (simp; omega)) hn
      have s5 : w4.heap.size + 1 ≤ w5.heap.size := by have := hn.size; simpa using this
      (try simp only [World.size_alloc] at ho)
      have H5 := H5.op (Nat.le_refl _) ho
      clear hn ho
      clear H4
      obtain ⟨xx5, yx5⟩ := H5.tl.bx2
      have lx5 := H5.tl.bxlt
      obtain ⟨xQ5, yQ5⟩ := H5.tl.tl.tl.tl.bx2
      have lQ5 := H5.tl.tl.tl.tl.bxlt
      obtain ⟨xP5, yP5⟩ := H5.tl.tl.tl.tl.tl.bx2
      have lP5 := H5.tl.tl.tl.tl.tl.bxlt
      go_wp2_with fail
      refine (CA.out _ _ _ _ _ _ _ _ _ (H5.tl.tl.tl.tl.tl.tl.rnup.top _) (H5.tl.tl.tl.tl.tl.tl.tl.rnup.top _) (H5.tl.tl.tl.tl.tl.tl.rnup.top _) (H5.tl.tl.tl.tl.tl.tl.tl.rnup.top _)).mono ?_
      rintro e w6 ⟨AE, kE, rfl, ho, hn⟩
      have H6 := (H5.new [.slice aY (s + 1) cY, .slice bY (s + 1) dY] 31).call hn
      have B6 : Below wb.heap.size wb w6 := bl (by go_grown) (by first | exact Nat.le_refl _ | (simp; done) | (simp; omega)) hn
      have s6 : w5.heap.size + 1 ≤ w6.heap.size := by have := hn.size; simpa using this
      (try simp only [World.size_alloc] at ho)
      have H6 := H6.ow (Nat.le_refl _) ho
      clear hn ho
      clear H5
      obtain ⟨xy6, yy6⟩ := H6.tl.bx2
      have ly6 := H6.tl.bxlt
      obtain ⟨xx6, yx6⟩ := H6.tl.tl.tl.bx2
      have lx6 := H6.tl.tl.tl.bxlt
      obtain ⟨xQ6, yQ6⟩ := H6.tl.tl.tl.tl.tl.tl.bx2
      have lQ6 := H6.tl.tl.tl.tl.tl.tl.bxlt
      obtain ⟨xP6, yP6⟩ := H6.tl.tl.tl.tl.tl.tl.tl.bx2
      have lP6 := H6.tl.tl.tl.tl.tl.tl.tl.bxlt
      go_wp2_with fail
      refine (CB.out _ _ _ _ _ _ _ _ _ H6.tl.tl.tl.tl.tl.tl.tl.tl.tl.tl.rnup H6.tl.tl.tl.tl.tl.tl.tl.tl.tl.tl.tl.rnup H6.tl.tl.tl.tl.tl.tl.tl.tl.rnup H6.tl.tl.tl.tl.tl.tl.tl.tl.tl.rnup).mono ?_
      rintro e w7 ⟨AF, kF, rfl, ho, hn⟩
      have H7 := H6.call hn
      have B7 : Below wb.heap.size wb w7 := bl (by go_grown) (by first | exact Nat.le_refl _ | (simp; done) | (simp; omega)) hn
      have s7 : w6.heap.size ≤ w7.heap.size := by have := hn.size; simpa using this
      (try simp only [World.size_alloc] at ho)
      have H7 := H7.ow (Nat.le_refl _) ho
      clear hn ho
      clear H6
      obtain ⟨xy7, yy7⟩ := H7.tl.tl.bx2
      have ly7 := H7.tl.tl.bxlt
      obtain ⟨xx7, yx7⟩ := H7.tl.tl.tl.tl.bx2
      have lx7 := H7.tl.tl.tl.tl.bxlt
      obtain ⟨xQ7, yQ7⟩ := H7.tl.tl.tl.tl.tl.tl.tl.bx2
      have lQ7 := H7.tl.tl.tl.tl.tl.tl.tl.bxlt
      obtain ⟨xP7, yP7⟩ := H7.tl.tl.tl.tl.tl.tl.tl.tl.bx2
      have lP7 := H7.tl.tl.tl.tl.tl.tl.tl.tl.bxlt
      go_wp2_with fail
      refine (sameI_b _ _ _ _ _ _ _ H7.owrn H7.tl.tl.tl.tl.tl.tl.owrn (by first | omega | simp)).mono ?_
      rintro e w8 ⟨rfl, hn⟩
      have H8 := H7.call hn
      have B8 : Below wb.heap.size wb w8 := bl (by go_grown) (by first | exact Nat.le_refl _ | (simp; done) | (simp; omega)) hn
      have s8 : w7.heap.size ≤ w8.heap.size := by have := hn.size; simpa using this
      clear hn
      clear H7
      obtain ⟨xy8, yy8⟩ := H8.tl.tl.bx2
      have ly8 := H8.tl.tl.bxlt
      obtain ⟨xx8, yx8⟩ := H8.tl.tl.tl.tl.bx2
      have lx8 := H8.tl.tl.tl.tl.bxlt
      obtain ⟨xQ8, yQ8⟩ := H8.tl.tl.tl.tl.tl.tl.tl.bx2
      have lQ8 := H8.tl.tl.tl.tl.tl.tl.tl.bxlt
      obtain ⟨xP8, yP8⟩ := H8.tl.tl.tl.tl.tl.tl.tl.tl.bx2
      have lP8 := H8.tl.tl.tl.tl.tl.tl.tl.tl.bxlt
      have HL := Lib.hid H8
      have bx := Bx.new w8 [.slice a1 (s + 1) c1, .slice a2 (s + 1) c2, .slice b1 (s + 1) d1, .slice b2 (s + 1) d2] 31
      have ps := psRn_two bx ((H8.tl.tl.tl.tl.tl.tl.tl.tl.tl.rnup).top _) ((H8.tl.tl.tl.tl.tl.tl.tl.tl.tl.tl.rnup).top _) ((H8.tl.tl.tl.tl.tl.tl.tl.tl.tl.tl.tl.rnup).top _) ((H8.tl.tl.tl.tl.tl.tl.tl.tl.tl.tl.tl.tl.rnup).top _)
      have PSH := Lib.hid ps
      clear ps bx
      go_wp2_with fail
      refine (VP.out _ _ _ PSH.out).mono ?_
      rintro e wz ⟨rfl, hn⟩
      have Bz : Below wb.heap.size wb wz := bl (show Below wb.heap.size wb (w8.alloc (.cells #[.slice a1 (s + 1) c1, .slice a2 (s + 1) c2, .slice b1 (s + 1) d1, .slice b2 (s + 1) d2] 31)) by have := B8.size; go_grown) (Nat.le_refl _) hn
      clear hn PSH HL
      go_wp2
      go_ret
      exact ⟨rfl, bl HB.out (Nat.le_refl _) Bz⟩
  · have LA : Hid (∀ (W : World) (A : Option Addr) (c : Nat) (B : Option Addr) (d : Nat), Rn W W.heap.size A (s + 1) f1 → Rn W W.heap.size B (s + 1) f2 → Calls Try.prog 29 #[.int .i64 ((s : Int) + 1), .agg #[.slice A (s + 1) c, .slice B (s + 1) d], .int .i64 7] W (PathRes W true (s + 1) (fun j => f1 j + 7) (s + 1) (fun j => f2 j + 7))) := fun W A c B d p q => iLate_go true A B (s + 1) c d f1 f2 7 W p q hva (by omega) qa
    cases qb : pathV ((s + 1 : Nat) : Int) (lateD 7 ⟨s + 1, g1, s + 1, g2⟩)
    · have LB : Hid (∀ (W : World) (A : Option Addr) (c : Nat) (B : Option Addr) (d : Nat), Rn W W.heap.size A (s + 1) g1 → Rn W W.heap.size B (s + 1) g2 → Calls Try.prog 29 #[.int .i64 ((s : Int) + 1), .agg #[.slice A (s + 1) c, .slice B (s + 1) d], .int .i64 7] W (NoPath W)) := fun W A c B d p q => iLate_go false A B (s + 1) c d g1 g2 7 W p q hvb (by omega) qb
      clear hno hva hvb x1 x2 x3 x4 hL hE qa qb
      have B0 : Below wb.heap.size wb wb := Below.refl _ _
      have H0 : Hold wb [rnA wb.heap.size a1 (s + 1) f1, rnA wb.heap.size a2 (s + 1) f2, rnA wb.heap.size b1 (s + 1) g1, rnA wb.heap.size b2 (s + 1) g2] := ((((Hold.nil wb).rn (Nat.le_refl _) r4).rn (Nat.le_refl _) r3).rn (Nat.le_refl _) r2).rn (Nat.le_refl _) r1
      clear r1 r2 r3 r4 hb
      go_wp2_with fail
      refine (CI.out _ _ _ _ _ _ _ _ _ ((H0.rnup.top _).top _) ((H0.tl.rnup.top _).top _) ((H0.tl.tl.rnup.top _).top _) ((H0.tl.tl.tl.rnup.top _).top _)).mono ?_
      rintro e w1 ⟨AO, kO, rfl, ho, hn⟩
      have H1 := ((H0.new [.slice a1 (s + 1) c1, .slice a2 (s + 1) c2] 31).new [.slice b1 (s + 1) d1, .slice b2 (s + 1) d2] 31).call hn
      simp only [World.size_alloc] at H1
      have B1 : Below wb.heap.size wb w1 := bl (by go_grown) (by first | exact Nat.le_refl _ | (simp; done) | (simp; omega)) hn
      have s1 : wb.heap.size + 1 + 1 ≤ w1.heap.size := by have := hn.size; simpa using this
      (try simp only [World.size_alloc] at ho)
      have H1 := H1.ow (Nat.le_refl _) ho
      clear hn ho
      clear H0
      obtain ⟨xQ1, yQ1⟩ := H1.tl.bx2
      have lQ1 := H1.tl.bxlt
      obtain ⟨xP1, yP1⟩ := H1.tl.tl.bx2
      have lP1 := H1.tl.tl.bxlt
      go_wp2_with fail
      refine (CS.out _ _ _ _ _ _ _ _ _ H1.tl.tl.tl.rnup H1.tl.tl.tl.tl.rnup H1.tl.tl.tl.tl.tl.rnup H1.tl.tl.tl.tl.tl.tl.rnup).mono ?_
      rintro e w2 ⟨AT, kT, rfl, ho, hn⟩
      have H2 := H1.call hn
      have B2 : Below wb.heap.size wb w2 := bl (by go_grown) (by first | exact Nat.le_refl _ | (simp; done) | (simp; omega)) hn
      have s2 : w1.heap.size ≤ w2.heap.size := by have := hn.size; simpa using this
      (try simp only [World.size_alloc] at ho)
      have H2 := H2.ow (Nat.le_refl _) ho
      clear hn ho
      clear H1
      obtain ⟨xQ2, yQ2⟩ := H2.tl.tl.bx2
      have lQ2 := H2.tl.tl.bxlt
      obtain ⟨xP2, yP2⟩ := H2.tl.tl.tl.bx2
      have lP2 := H2.tl.tl.tl.bxlt
      go_wp2_with fail
      refine (sameI_b _ _ _ _ _ _ _ H2.tl.owrn H2.owrn (by first | omega | simp)).mono ?_
      rintro e w3 ⟨rfl, hn⟩
      have H3 := H2.call hn
      have B3 : Below wb.heap.size wb w3 := bl (by go_grown) (by first | exact Nat.le_refl _ | (simp; done) | (simp; omega)) hn
      have s3 : w2.heap.size ≤ w3.heap.size := by have := hn.size; simpa using this
      clear hn
      clear H2
      obtain ⟨xQ3, yQ3⟩ := H3.tl.tl.bx2
      have lQ3 := H3.tl.tl.bxlt
      obtain ⟨xP3, yP3⟩ := H3.tl.tl.tl.bx2
      have lP3 := H3.tl.tl.tl.bxlt
      go_wp2_with fail
      refine (LA.out _ _ _ _ _ H3.tl.tl.tl.tl.rnup H3.tl.tl.tl.tl.tl.rnup).mono ?_
      rintro e w4 ⟨aX, cX, bX, dX, rfl, ho, hn⟩
      have H4 := H3.call hn
      have B4 : Below wb.heap.size wb w4 := bl (by go_grown) (by first | exact Nat.le_refl _ | (simp; done) | (simp; omega)) hn
      have s4 : w3.heap.size ≤ w4.heap.size := by have := hn.size; simpa using this
      (try simp only [World.size_alloc] at ho)
      have H4 := H4.op (Nat.le_refl _) ho
      clear hn ho
      clear H3
      obtain ⟨xQ4, yQ4⟩ := H4.tl.tl.tl.bx2
      have lQ4 := H4.tl.tl.tl.bxlt
      obtain ⟨xP4, yP4⟩ := H4.tl.tl.tl.tl.bx2
      have lP4 := H4.tl.tl.tl.tl.bxlt
      go_wp2_with fail
      refine (LB.out _ _ _ _ _ (H4.tl.tl.tl.tl.tl.tl.tl.rnup.top _) (H4.tl.tl.tl.tl.tl.tl.tl.tl.rnup.top _)).mono ?_
      rintro e w5 ⟨rfl, hn⟩
      have H5 := (H4.new [.slice aX (s + 1) cX, .slice bX (s + 1) dX] 31).call hn
      have B5 : Below wb.heap.size wb w5 := bl (by go_grown) (by first | exact Nat.le_refl _ | (simp; done) | (simp; omega)) hn
      have s5 : w4.heap.size + 1 ≤ w5.heap.size := by have := hn.size; simpa using this
      clear hn
      clear H4
      obtain ⟨xx5, yx5⟩ := H5.bx2
      have lx5 := H5.bxlt
      obtain ⟨xQ5, yQ5⟩ := H5.tl.tl.tl.tl.bx2
      have lQ5 := H5.tl.tl.tl.tl.bxlt
      obtain ⟨xP5, yP5⟩ := H5.tl.tl.tl.tl.tl.bx2
      have lP5 := H5.tl.tl.tl.tl.tl.bxlt
      go_wp2_with fail
      refine (CA.out _ _ _ _ _ _ _ _ _ (H5.tl.tl.tl.tl.tl.tl.rnup.top _) (H5.tl.tl.tl.tl.tl.tl.tl.rnup.top _) (H5.tl.tl.tl.tl.tl.tl.rnup.top _) (H5.tl.tl.tl.tl.tl.tl.tl.rnup.top _)).mono ?_
      rintro e w6 ⟨AE, kE, rfl, ho, hn⟩
      have H6 := (H5.new [.slice none 0 0, .slice none 0 0] 31).call hn
      have B6 : Below wb.heap.size wb w6 := bl (by go_grown) (by first | exact Nat.le_refl _ | (simp; done) | (simp; omega)) hn
      have s6 : w5.heap.size + 1 ≤ w6.heap.size := by have := hn.size; simpa using this
      (try simp only [World.size_alloc] at ho)
      have H6 := H6.ow (Nat.le_refl _) ho
      clear hn ho
      clear H5
      obtain ⟨xy6, yy6⟩ := H6.tl.bx2
      have ly6 := H6.tl.bxlt
      obtain ⟨xx6, yx6⟩ := H6.tl.tl.bx2
      have lx6 := H6.tl.tl.bxlt
      obtain ⟨xQ6, yQ6⟩ := H6.tl.tl.tl.tl.tl.tl.bx2
      have lQ6 := H6.tl.tl.tl.tl.tl.tl.bxlt
      obtain ⟨xP6, yP6⟩ := H6.tl.tl.tl.tl.tl.tl.tl.bx2
      have lP6 := H6.tl.tl.tl.tl.tl.tl.tl.bxlt
      go_wp2_with fail
      refine (CB.out _ _ _ _ _ _ _ _ _ H6.tl.tl.tl.tl.tl.tl.tl.tl.tl.tl.rnup H6.tl.tl.tl.tl.tl.tl.tl.tl.tl.tl.tl.rnup H6.tl.tl.tl.tl.tl.tl.tl.tl.rnup H6.tl.tl.tl.tl.tl.tl.tl.tl.tl.rnup).mono ?_
      rintro e w7 ⟨AF, kF, rfl, ho, hn⟩
      have H7 := H6.call hn
      have B7 : Below wb.heap.size wb w7 := bl (by go_grown) (by first | exact Nat.le_refl _ | (simp; done) | (simp; omega)) hn
      have s7 : w6.heap.size ≤ w7.heap.size := by have := hn.size; simpa using this
      (try simp only [World.size_alloc] at ho)
      have H7 := H7.ow (Nat.le_refl _) ho
      clear hn ho
      clear H6
      obtain ⟨xy7, yy7⟩ := H7.tl.tl.bx2
      have ly7 := H7.tl.tl.bxlt
      obtain ⟨xx7, yx7⟩ := H7.tl.tl.tl.bx2
      have lx7 := H7.tl.tl.tl.bxlt
      obtain ⟨xQ7, yQ7⟩ := H7.tl.tl.tl.tl.tl.tl.tl.bx2
      have lQ7 := H7.tl.tl.tl.tl.tl.tl.tl.bxlt
      obtain ⟨xP7, yP7⟩ := H7.tl.tl.tl.tl.tl.tl.tl.tl.bx2
      have lP7 := H7.tl.tl.tl.tl.tl.tl.tl.tl.bxlt
      go_wp2_with fail
      refine (sameI_b _ _ _ _ _ _ _ H7.owrn H7.tl.tl.tl.tl.tl.tl.owrn (by first | omega | simp)).mono ?_
      rintro e w8 ⟨rfl, hn⟩
      have H8 := H7.call hn
      have B8 : Below wb.heap.size wb w8 := bl (by go_grown) (by first | exact Nat.le_refl _ | (simp; done) | (simp; omega)) hn
      have s8 : w7.heap.size ≤ w8.heap.size := by have := hn.size; simpa using this
      clear hn
      clear H7
      obtain ⟨xy8, yy8⟩ := H8.tl.tl.bx2
      have ly8 := H8.tl.tl.bxlt
      obtain ⟨xx8, yx8⟩ := H8.tl.tl.tl.bx2
      have lx8 := H8.tl.tl.tl.bxlt
      obtain ⟨xQ8, yQ8⟩ := H8.tl.tl.tl.tl.tl.tl.tl.bx2
      have lQ8 := H8.tl.tl.tl.tl.tl.tl.tl.bxlt
      obtain ⟨xP8, yP8⟩ := H8.tl.tl.tl.tl.tl.tl.tl.tl.bx2
      have lP8 := H8.tl.tl.tl.tl.tl.tl.tl.tl.bxlt
      have HL := Lib.hid H8
      have bx := Bx.new w8 [.slice a1 (s + 1) c1, .slice a2 (s + 1) c2, .slice b1 (s + 1) d1, .slice b2 (s + 1) d2] 31
      have ps := psRn_two bx ((H8.tl.tl.tl.tl.tl.tl.tl.tl.tl.rnup).top _) ((H8.tl.tl.tl.tl.tl.tl.tl.tl.tl.tl.rnup).top _) ((H8.tl.tl.tl.tl.tl.tl.tl.tl.tl.tl.tl.rnup).top _) ((H8.tl.tl.tl.tl.tl.tl.tl.tl.tl.tl.tl.tl.rnup).top _)
      have PSH := Lib.hid ps
      clear ps bx
      go_wp2_with fail
      refine (VP.out _ _ _ PSH.out).mono ?_
      rintro e wz ⟨rfl, hn⟩
      have Bz : Below wb.heap.size wb wz := bl (show Below wb.heap.size wb (w8.alloc (.cells #[.slice a1 (s + 1) c1, .slice a2 (s + 1) c2, .slice b1 (s + 1) d1, .slice b2 (s + 1) d2] 31)) by have := B8.size; go_grown) (Nat.le_refl _) hn
      clear hn PSH HL
      go_wp2
      go_ret
      exact ⟨rfl, bl HB.out (Nat.le_refl _) Bz⟩
    · have LB : Hid (∀ (W : World) (A : Option Addr) (c : Nat) (B : Option Addr) (d : Nat), Rn W W.heap.size A (s + 1) g1 → Rn W W.heap.size B (s + 1) g2 → Calls Try.prog 29 #[.int .i64 ((s : Int) + 1), .agg #[.slice A (s + 1) c, .slice B (s + 1) d], .int .i64 7] W (PathRes W true (s + 1) (fun j => g1 j + 7) (s + 1) (fun j => g2 j + 7))) := fun W A c B d p q => iLate_go true A B (s + 1) c d g1 g2 7 W p q hvb (by omega) qb
      have hX : clashL ((s + 1 : Nat) : Int) ⟨s + 1, fun j => f1 j + 7, s + 1, fun j => f2 j + 7⟩ ⟨s + 1, fun j => g1 j + 7, s + 1, fun j => g2 j + 7⟩ = L := by
        show clashL _ (lateD 7 ⟨s + 1, f1, s + 1, f2⟩) (lateD 7 ⟨s + 1, g1, s + 1, g2⟩) = L
        rw [clashL_yes qa qb, ← hL, clashL_yes hva hvb]
        exact clashT_late ⟨s + 1, f1, s + 1, f2⟩ ⟨s + 1, g1, s + 1, g2⟩ 7 _
      have CX : Hid (∀ (W : World) (A1 : Option Addr) (e1 : Nat) (A2 : Option Addr) (e2 : Nat) (A3 : Option Addr) (e3 : Nat) (A4 : Option Addr) (e4 : Nat), Rn W W.heap.size A1 (s + 1) (fun j => f1 j + 7) → Rn W W.heap.size A2 (s + 1) (fun j => f2 j + 7) → Rn W W.heap.size A3 (s + 1) (fun j => g1 j + 7) → Rn W W.heap.size A4 (s + 1) (fun j => g2 j + 7) → Calls Try.prog 34 #[.int .i64 ((s : Int) + 1), .agg #[.slice A1 (s + 1) e1, .slice A2 (s + 1) e2], .agg #[.slice A3 (s + 1) e3, .slice A4 (s + 1) e4]] W (IntsOut W L)) := fun W A1 e1 A2 e2 A3 e3 A4 e4 p1 p2 p3 p4 => by have := (iPathClash A1 A2 A3 A4 _ e1 _ e2 _ e3 _ e4 (fun j => f1 j + 7) (fun j => f2 j + 7) (fun j => g1 j + 7) (fun j => g2 j + 7) ((s + 1 : Nat) : Int) W p1 p2 p3 p4).mono fun _ _ h => IntsRes.outI h; rwa [hX] at this
      clear hno hva hvb x1 x2 x3 x4 hL hE qa qb hX
      have B0 : Below wb.heap.size wb wb := Below.refl _ _
      have H0 : Hold wb [rnA wb.heap.size a1 (s + 1) f1, rnA wb.heap.size a2 (s + 1) f2, rnA wb.heap.size b1 (s + 1) g1, rnA wb.heap.size b2 (s + 1) g2] := ((((Hold.nil wb).rn (Nat.le_refl _) r4).rn (Nat.le_refl _) r3).rn (Nat.le_refl _) r2).rn (Nat.le_refl _) r1
      clear r1 r2 r3 r4 hb
      go_wp2_with fail
      refine (CI.out _ _ _ _ _ _ _ _ _ ((H0.rnup.top _).top _) ((H0.tl.rnup.top _).top _) ((H0.tl.tl.rnup.top _).top _) ((H0.tl.tl.tl.rnup.top _).top _)).mono ?_
      rintro e w1 ⟨AO, kO, rfl, ho, hn⟩
      have H1 := ((H0.new [.slice a1 (s + 1) c1, .slice a2 (s + 1) c2] 31).new [.slice b1 (s + 1) d1, .slice b2 (s + 1) d2] 31).call hn
      simp only [World.size_alloc] at H1
      have B1 : Below wb.heap.size wb w1 := bl (by go_grown) (by first | exact Nat.le_refl _ | (simp; done) | (simp; omega)) hn
      have s1 : wb.heap.size + 1 + 1 ≤ w1.heap.size := by have := hn.size; simpa using this
      (try simp only [World.size_alloc] at ho)
      have H1 := H1.ow (Nat.le_refl _) ho
      clear hn ho
      clear H0
      obtain ⟨xQ1, yQ1⟩ := H1.tl.bx2
      have lQ1 := H1.tl.bxlt
      obtain ⟨xP1, yP1⟩ := H1.tl.tl.bx2
      have lP1 := H1.tl.tl.bxlt
      go_wp2_with fail
      refine (CS.out _ _ _ _ _ _ _ _ _ H1.tl.tl.tl.rnup H1.tl.tl.tl.tl.rnup H1.tl.tl.tl.tl.tl.rnup H1.tl.tl.tl.tl.tl.tl.rnup).mono ?_
      rintro e w2 ⟨AT, kT, rfl, ho, hn⟩
      have H2 := H1.call hn
      have B2 : Below wb.heap.size wb w2 := bl (by go_grown) (by first | exact Nat.le_refl _ | (simp; done) | (simp; omega)) hn
      have s2 : w1.heap.size ≤ w2.heap.size := by have := hn.size; simpa using this
      (try simp only [World.size_alloc] at ho)
      have H2 := H2.ow (Nat.le_refl _) ho
      clear hn ho
      clear H1
      obtain ⟨xQ2, yQ2⟩ := H2.tl.tl.bx2
      have lQ2 := H2.tl.tl.bxlt
      obtain ⟨xP2, yP2⟩ := H2.tl.tl.tl.bx2
      have lP2 := H2.tl.tl.tl.bxlt
      go_wp2_with fail
      refine (sameI_b _ _ _ _ _ _ _ H2.tl.owrn H2.owrn (by first | omega | simp)).mono ?_
      rintro e w3 ⟨rfl, hn⟩
      have H3 := H2.call hn
      have B3 : Below wb.heap.size wb w3 := bl (by go_grown) (by first | exact Nat.le_refl _ | (simp; done) | (simp; omega)) hn
      have s3 : w2.heap.size ≤ w3.heap.size := by have := hn.size; simpa using this
      clear hn
      clear H2
      obtain ⟨xQ3, yQ3⟩ := H3.tl.tl.bx2
      have lQ3 := H3.tl.tl.bxlt
      obtain ⟨xP3, yP3⟩ := H3.tl.tl.tl.bx2
      have lP3 := H3.tl.tl.tl.bxlt
      go_wp2_with fail
      refine (LA.out _ _ _ _ _ H3.tl.tl.tl.tl.rnup H3.tl.tl.tl.tl.tl.rnup).mono ?_
      rintro e w4 ⟨aX, cX, bX, dX, rfl, ho, hn⟩
      have H4 := H3.call hn
      have B4 : Below wb.heap.size wb w4 := bl (by go_grown) (by first | exact Nat.le_refl _ | (simp; done) | (simp; omega)) hn
      have s4 : w3.heap.size ≤ w4.heap.size := by have := hn.size; simpa using this
      (try simp only [World.size_alloc] at ho)
      have H4 := H4.op (Nat.le_refl _) ho
      clear hn ho
      clear H3
      obtain ⟨xQ4, yQ4⟩ := H4.tl.tl.tl.bx2
      have lQ4 := H4.tl.tl.tl.bxlt
      obtain ⟨xP4, yP4⟩ := H4.tl.tl.tl.tl.bx2
      have lP4 := H4.tl.tl.tl.tl.bxlt
      go_wp2_with fail
      refine (LB.out _ _ _ _ _ (H4.tl.tl.tl.tl.tl.tl.tl.rnup.top _) (H4.tl.tl.tl.tl.tl.tl.tl.tl.rnup.top _)).mono ?_
      rintro e w5 ⟨aY, cY, bY, dY, rfl, ho, hn⟩
      have H5 := (H4.new [.slice aX (s + 1) cX, .slice bX (s + 1) dX] 31).call hn
      have B5 : Below wb.heap.size wb w5 := bl (by go_grown) (by first | exact Nat.le_refl _ | (simp; done) | (simp; omega)) hn
      have s5 : w4.heap.size + 1 ≤ w5.heap.size := by have := hn.size; simpa using this
      (try simp only [World.size_alloc] at ho)
      have H5 := H5.op (Nat.le_refl _) ho
      clear hn ho
      clear H4
      obtain ⟨xx5, yx5⟩ := H5.tl.bx2
      have lx5 := H5.tl.bxlt
      obtain ⟨xQ5, yQ5⟩ := H5.tl.tl.tl.tl.tl.bx2
      have lQ5 := H5.tl.tl.tl.tl.tl.bxlt
      obtain ⟨xP5, yP5⟩ := H5.tl.tl.tl.tl.tl.tl.bx2
      have lP5 := H5.tl.tl.tl.tl.tl.tl.bxlt
      go_wp2_with fail
      refine (CA.out _ _ _ _ _ _ _ _ _ (H5.tl.tl.tl.tl.tl.tl.tl.rnup.top _) (H5.tl.tl.tl.tl.tl.tl.tl.tl.rnup.top _) (H5.tl.tl.tl.tl.tl.tl.tl.rnup.top _) (H5.tl.tl.tl.tl.tl.tl.tl.tl.rnup.top _)).mono ?_
      rintro e w6 ⟨AE, kE, rfl, ho, hn⟩
      have H6 := (H5.new [.slice aY (s + 1) cY, .slice bY (s + 1) dY] 31).call hn
      have B6 : Below wb.heap.size wb w6 := bl (by go_grown) (by first | exact Nat.le_refl _ | (simp; done) | (simp; omega)) hn
      have s6 : w5.heap.size + 1 ≤ w6.heap.size := by have := hn.size; simpa using this
      (try simp only [World.size_alloc] at ho)
      have H6 := H6.ow (Nat.le_refl _) ho
      clear hn ho
      clear H5
      obtain ⟨xy6, yy6⟩ := H6.tl.bx2
      have ly6 := H6.tl.bxlt
      obtain ⟨xx6, yx6⟩ := H6.tl.tl.tl.bx2
      have lx6 := H6.tl.tl.tl.bxlt
      obtain ⟨xQ6, yQ6⟩ := H6.tl.tl.tl.tl.tl.tl.tl.bx2
      have lQ6 := H6.tl.tl.tl.tl.tl.tl.tl.bxlt
      obtain ⟨xP6, yP6⟩ := H6.tl.tl.tl.tl.tl.tl.tl.tl.bx2
      have lP6 := H6.tl.tl.tl.tl.tl.tl.tl.tl.bxlt
      go_wp2_with fail
      refine (CB.out _ _ _ _ _ _ _ _ _ H6.tl.tl.tl.tl.tl.tl.tl.tl.tl.tl.tl.rnup H6.tl.tl.tl.tl.tl.tl.tl.tl.tl.tl.tl.tl.rnup H6.tl.tl.tl.tl.tl.tl.tl.tl.tl.rnup H6.tl.tl.tl.tl.tl.tl.tl.tl.tl.tl.rnup).mono ?_
      rintro e w7 ⟨AF, kF, rfl, ho, hn⟩
      have H7 := H6.call hn
      have B7 : Below wb.heap.size wb w7 := bl (by go_grown) (by first | exact Nat.le_refl _ | (simp; done) | (simp; omega)) hn
      have s7 : w6.heap.size ≤ w7.heap.size := by have := hn.size; simpa using this
      (try simp only [World.size_alloc] at ho)
      have H7 := H7.ow (Nat.le_refl _) ho
      clear hn ho
      clear H6
      obtain ⟨xy7, yy7⟩ := H7.tl.tl.bx2
      have ly7 := H7.tl.tl.bxlt
      obtain ⟨xx7, yx7⟩ := H7.tl.tl.tl.tl.bx2
      have lx7 := H7.tl.tl.tl.tl.bxlt
      obtain ⟨xQ7, yQ7⟩ := H7.tl.tl.tl.tl.tl.tl.tl.tl.bx2
      have lQ7 := H7.tl.tl.tl.tl.tl.tl.tl.tl.bxlt
      obtain ⟨xP7, yP7⟩ := H7.tl.tl.tl.tl.tl.tl.tl.tl.tl.bx2
      have lP7 := H7.tl.tl.tl.tl.tl.tl.tl.tl.tl.bxlt
      go_wp2_with fail
      refine (sameI_b _ _ _ _ _ _ _ H7.owrn H7.tl.tl.tl.tl.tl.tl.tl.owrn (by first | omega | simp)).mono ?_
      rintro e w8 ⟨rfl, hn⟩
      have H8 := H7.call hn
      have B8 : Below wb.heap.size wb w8 := bl (by go_grown) (by first | exact Nat.le_refl _ | (simp; done) | (simp; omega)) hn
      have s8 : w7.heap.size ≤ w8.heap.size := by have := hn.size; simpa using this
      clear hn
      clear H7
      obtain ⟨xy8, yy8⟩ := H8.tl.tl.bx2
      have ly8 := H8.tl.tl.bxlt
      obtain ⟨xx8, yx8⟩ := H8.tl.tl.tl.tl.bx2
      have lx8 := H8.tl.tl.tl.tl.bxlt
      obtain ⟨xQ8, yQ8⟩ := H8.tl.tl.tl.tl.tl.tl.tl.tl.bx2
      have lQ8 := H8.tl.tl.tl.tl.tl.tl.tl.tl.bxlt
      obtain ⟨xP8, yP8⟩ := H8.tl.tl.tl.tl.tl.tl.tl.tl.tl.bx2
      have lP8 := H8.tl.tl.tl.tl.tl.tl.tl.tl.tl.bxlt
      go_wp2_with fail
      refine (CX.out _ _ _ _ _ _ _ _ _ H8.tl.tl.tl.tl.tl.op1 H8.tl.tl.tl.tl.tl.op2 H8.tl.tl.tl.op1 H8.tl.tl.tl.op2).mono ?_
      rintro e w9 ⟨AG, kG, rfl, ho, hn⟩
      have H9 := H8.call hn
      have B9 : Below wb.heap.size wb w9 := bl (by go_grown) (by first | exact Nat.le_refl _ | (simp; done) | (simp; omega)) hn
      have s9 : w8.heap.size ≤ w9.heap.size := by have := hn.size; simpa using this
      (try simp only [World.size_alloc] at ho)
      have H9 := H9.ow (Nat.le_refl _) ho
      clear hn ho
      clear H8
      obtain ⟨xy9, yy9⟩ := H9.tl.tl.tl.bx2
      have ly9 := H9.tl.tl.tl.bxlt
      obtain ⟨xx9, yx9⟩ := H9.tl.tl.tl.tl.tl.bx2
      have lx9 := H9.tl.tl.tl.tl.tl.bxlt
      obtain ⟨xQ9, yQ9⟩ := H9.tl.tl.tl.tl.tl.tl.tl.tl.tl.bx2
      have lQ9 := H9.tl.tl.tl.tl.tl.tl.tl.tl.tl.bxlt
      obtain ⟨xP9, yP9⟩ := H9.tl.tl.tl.tl.tl.tl.tl.tl.tl.tl.bx2
      have lP9 := H9.tl.tl.tl.tl.tl.tl.tl.tl.tl.tl.bxlt
      go_wp2_with fail
      refine (sameI_b _ _ _ _ _ _ _ H9.owrn H9.tl.tl.tl.tl.tl.tl.tl.tl.owrn (by first | omega | simp)).mono ?_
      rintro e w10 ⟨rfl, hn⟩
      have H10 := H9.call hn
      have B10 : Below wb.heap.size wb w10 := bl (by go_grown) (by first | exact Nat.le_refl _ | (simp; done) | (simp; omega)) hn
      have s10 : w9.heap.size ≤ w10.heap.size := by have := hn.size; simpa using this
      clear hn
      clear H9
      obtain ⟨xy10, yy10⟩ := H10.tl.tl.tl.bx2
      have ly10 := H10.tl.tl.tl.bxlt
      obtain ⟨xx10, yx10⟩ := H10.tl.tl.tl.tl.tl.bx2
      have lx10 := H10.tl.tl.tl.tl.tl.bxlt
      obtain ⟨xQ10, yQ10⟩ := H10.tl.tl.tl.tl.tl.tl.tl.tl.tl.bx2
      have lQ10 := H10.tl.tl.tl.tl.tl.tl.tl.tl.tl.bxlt
      obtain ⟨xP10, yP10⟩ := H10.tl.tl.tl.tl.tl.tl.tl.tl.tl.tl.bx2
      have lP10 := H10.tl.tl.tl.tl.tl.tl.tl.tl.tl.tl.bxlt
      have HL := Lib.hid H10
      have bx := Bx.new w10 [.slice a1 (s + 1) c1, .slice a2 (s + 1) c2, .slice b1 (s + 1) d1, .slice b2 (s + 1) d2] 31
      have ps := psRn_two bx ((H10.tl.tl.tl.tl.tl.tl.tl.tl.tl.tl.tl.rnup).top _) ((H10.tl.tl.tl.tl.tl.tl.tl.tl.tl.tl.tl.tl.rnup).top _) ((H10.tl.tl.tl.tl.tl.tl.tl.tl.tl.tl.tl.tl.tl.rnup).top _) ((H10.tl.tl.tl.tl.tl.tl.tl.tl.tl.tl.tl.tl.tl.tl.rnup).top _)
      have PSH := Lib.hid ps
      clear ps bx
      go_wp2_with fail
      refine (VP.out _ _ _ PSH.out).mono ?_
      rintro e wz ⟨rfl, hn⟩
      have Bz : Below wb.heap.size wb wz := bl (show Below wb.heap.size wb (w10.alloc (.cells #[.slice a1 (s + 1) c1, .slice a2 (s + 1) c2, .slice b1 (s + 1) d1, .slice b2 (s + 1) d2] 31)) by have := B10.size; go_grown) (Nat.le_refl _) hn
      clear hn PSH HL
      go_wp2
      go_ret
      exact ⟨rfl, bl HB.out (Nat.le_refl _) Bz⟩
theorem w_FnPathClash (a0 : Option Addr) (len0 cap0 : Nat) (z0 : List Int) (w : World) (w0 : IsRow .u8 w a0 len0 cap0 z0) :
    Calls Try.prog 7 #[.slice a0 len0 cap0] w fun e w' => e = .returned (.bool true) ∧ Below w.heap.size w w' := by
  obtain ⟨hA, hc, hm⟩ := w0.bytes
  by_cases hs0 : 1048576 < len0
  · have hd0 : decide ((1048576 : Int) < (len0 : Int)) = true := by simp; omega
    clear w0 hA
    go_enter Try.func7, Try.ntmps7
    go_wp2
    go_ret
    exact ⟨rfl, Below.refl _ _⟩
  · exact y_FnPathClash a0 len0 cap0 w hA (by omega) hc hm
end Go.Proofs.Ytjppkcfbhhjniaa
