/-
  Contract of the draw of paths of a line.
-/
import Derived.Test.YtjppkcfbhhjniaaDrawPr
namespace Go.Proofs.Ytjppkcfbhhjniaa
open Go.RowKit Go.Deep
set_option linter.unusedVariables false

def lensB (D : Nat → PD) (k : Nat) : Prop := ∀ t, t < k → (D t).m1 ≤ 5 ∧ (D t).m2 ≤ 5
theorem lensB_add {D : Nat → PD} {k n1 n2 : Nat} {f1 f2 : Nat → Int} (h : lensB D k) (h1 : n1 ≤ 5) (h2 : n2 ≤ 5) : lensB (addD D k ⟨n1, f1, n2, f2⟩) (k + 1) := fun t ht => by
  by_cases e : t = k
  · subst e; rw [addD_at]; exact ⟨h1, h2⟩
  · rw [addD_lt (by omega)]; exact h t (by omega)
/-- What is known of the cells of a slice of paths. -/
def PsCells (w : World) (lo g k : Nat) (D : Nat → PD) (xs : List Value) : Prop := ∀ i, i < k → ∃ a1 c1 a2 c2, xs[i * 2]? = some (.slice a1 (D i).m1 c1) ∧ xs[i * 2 + 1]? = some (.slice a2 (D i).m2 c2) ∧ Rx w lo g a1 (D i).m1 (D i).f1 ∧ Rx w lo g a2 (D i).m2 (D i).f2
theorem psCells_one {w : World} {lo g k : Nat} {D : Nat → PD} {xs : List Value} (h : PsCells w lo g k D xs) (hl : xs.length = k * 2) : ∀ u ∈ xs, u.oneCell' = true := by
  intro u hu
  obtain ⟨j, hj, e⟩ := List.getElem_of_mem hu
  have hj2 : xs[j]? = some u := by rw [List.getElem?_eq_getElem hj, e]
  obtain ⟨a1, c1, a2, c2, e1, e2, _, _⟩ := h (j / 2) (by omega)
  rcases (show j = j / 2 * 2 ∨ j = j / 2 * 2 + 1 by omega) with q | q
  · rw [q, e1] at hj2; injection hj2 with hj2; rw [← hj2]; rfl
  · rw [q, e2] at hj2; injection hj2 with hj2; rw [← hj2]; rfl
/-- What a draw of paths leaves. -/
def PathsDr (T : TypeId) (B : Nat) (w : World) (R q0 : Nat) (e : Ending) (w' : World) : Prop :=
  ∃ (n g k c : Nat) (D : Nat → PD) (q : Nat), e = .returned (.tuple #[.int .i64 (n : Int), .slice (some ⟨g, 0, none⟩) k c]) ∧ (1 ≤ n ∧ n ≤ 4) ∧ k ≤ 9 ∧ lensB D k ∧ DPs w' T w.heap.size g k c D ∧ Rd B w' R q ∧ q ≤ q0 ∧ w.grownBy w' (some R)
/-- Between two rounds. -/
def PathsR (T : TypeId) (B : Nat) (w : World) (R q0 : Nat) (n : Nat) (v : Value) (wr : World) : Prop :=
  ∃ (g k c : Nat) (D : Nat → PD) (q : Nat), v = .slice (some ⟨g, 0, none⟩) k c ∧ k ≤ 8 ∧ lensB D k ∧ DPs wr T w.heap.size g k c D ∧ Rd B wr R q ∧ q ≤ q0 ∧ w.grownBy wr (some R)
set_option maxRecDepth 100000 in
set_option maxHeartbeats 8000000 in
theorem paths_any (B R p : Nat) (w : World) (h : Rd B w R p) (hp : p ≤ 20000) :
    Calls Try.prog 55 #[.pointer (some ⟨R, 0, none⟩)] w (PathsDr 31 B w R (p + 500)) := by
  obtain ⟨p0, pi0, pz0, pz1, pz2⟩ := info_parts pathInfo
  have hlt := h.lt
  have hbs := h.base
  go_enter Try.func55, Try.ntmps55
  go_wp2_with fail
  refine (pick_any B R p 4 w h (by omega) (by omega) (by omega)).mono ?_
  rintro e w1 ⟨v0, rfl, hv0a, hv0b, hR, hg⟩
  obtain ⟨n', rfl⟩ := Int.eq_ofNat_of_zero_le hv0a
  have hs1 := hg.size
  have hr0 := hR.alloc (.cells #[] 31)
  have hd0 := DPs.new0 w1 31 w.heap.size (fun _ => ⟨0, fun _ => 0, 0, fun _ => 0⟩) hs1
  have hg0 := gb_alloc hg (.cells #[] 31)
  clear hR hg h
  go_wp2_with fail
  refine (pick_any B R (p + 1) 5 _ hr0 (by omega) (by omega) (by omega)).mono ?_
  rintro e w2 ⟨v1, rfl, hv1a, hv1b, hR, hg⟩
  obtain ⟨many, rfl⟩ := Int.eq_ofNat_of_zero_le hv1a
  have hd := hd0.grown hlt hg
  have hg := gb_trans hg0 hg
  have e1 : (1 : Int) + (n' : Int) = ((n' + 1 : Nat) : Int) := by omega
  clear hr0 hd0 hg0
  have H0 : PathsR 31 B w R (p + 2 + 100 * 0) (n' + 1) (.slice (some ⟨w1.heap.size, 0, none⟩) 0 0) w2 := ⟨_, 0, 0, _, p + 1 + 1, rfl, by omega, fun t ht => absurd ht (by omega), hd, hR, by omega, hg⟩
  have hn4 : 1 ≤ n' + 1 ∧ n' + 1 ≤ 4 := by omega
  generalize hN : n' + 1 = n at *
  clear hd hR hg hv0a hv0b
  go_wp2_with fail
  (try rw [e1])
  clear e1 hN
  go_loopw [5, 7] (fun v s wr => ∃ i : Nat, i ≤ many ∧ s = .int .i64 i ∧ PathsR 31 B w R (p + 2 + 100 * i) n v wr) (fun _ s _ => many - (intOf s).toNat)
  case atStart => exact ⟨0, by omega, rfl, H0⟩
  case round =>
    clear H0
    obtain ⟨i, hi, rfl, g, k, c, D, q, rfl, hk, hD, hd, hR, hq, hg⟩ := hrel
    have hsr := hg.size
    have HD := Lib.hid hD
    have HP := Lib.hid hd
    have HG := Lib.hid hg
    clear hD hd hg
    by_cases hlt2 : i < many
    · go_wp2_with fail
      refine (pick_any B R q 2 _ hR (by omega) (by omega) (by omega)).mono ?_
      rintro e w3 ⟨v, rfl, hva, hvb, hR, hg3⟩
      have hd := HP.out.grown hlt hg3
      have hg := gb_trans HG.out hg3
      have hs3 := hg.size
      have HP3 := Lib.hid hd
      have HG3 := Lib.hid hg
      have HR3 := Lib.hid hR
      have hglt := hd.lt
      clear hd hg hR hg3 HP HG
      by_cases h0 : v = 0
      · subst h0
        obtain ⟨xs, ho, hx⟩ := HP3.out
        have hxl := ho.1
        have hcp := owns_cap ho
        have hx : PsCells w3 w.heap.size g k D xs := hx
        have hone := psCells_one hx hxl
        have HX := Lib.hid hx
        have HO := Lib.hid ho
        have H1 := Lib.hid hone
        clear hx ho hone
        go_wp2_with (at_builtin; refine wp_app rfl _ _ _ rfl w.heap.size 31 p0 (.agg #[.slice none 0 0, .slice none 0 0]) 2 48 Try.underlying23 pi0 pz0 pz1 pz2 rfl (by omega) w3.heap.size 0 0 [] rfl (World.ownsRow_made (base := w.heap.size) (size := 2) (e := 31) w3 #[] 0 hs3 (by unfold maxLen; omega) (by simp)) ⟨g, 0, none⟩ k c xs rfl hxl ?c2 H1.out ?c3 ?c4 ?c5 (w3.heap.size + 1) ?c6 ?_)
        try case c2 => exact fun j u hu => (HO.out.alloc _).cells (g := g) rfl j u hu
        case c3 => unfold maxLen; omega
        case c4 => omega
        try case c5 => first | omega | (simp; omega)
        try case c6 => simp
        intro g1 k1 w4 hown1 hg1 hat1 hlt1
        (try simp only [Nat.zero_add, List.nil_append] at hown1)
        have hb4 : Below w3.heap.size w3 w4 := (show Below w3.heap.size w3 (w3.alloc (.cells #[] 31)) by go_grown).grown hg1 (by simp) (fun k e => by injection e with e; omega)
        have hd4 := DPs.copy HX.out hown1 (by omega) hb4
        have hR4 := Lib.hid (HR3.out.call hb4)
        have hs4 := hb4.size
        have hglt1 := hd4.lt
        have HP4 := Lib.hid hd4
        have HB4 := Lib.hid (gb_below (gb_refl w3 (some R)) hb4)
        clear hown1 hg1 hd4 hb4 HX HO H1
        go_wp2_with fail
        refine (path_any B R (q + 1) n _ hR4.out (by omega) hn4).mono ?_
        rintro e w5 ⟨a1, n1, c1, f1, a2, n2, c2, f2, q5, rfl, hn1, hn2, r1, r2, hR5, hq5, hg5⟩
        obtain ⟨ys, ho5, hy⟩ := (HP4.out.grown hlt hg5).alloc (.cells #[.slice a1 n1 c1, .slice a2 n2 c2] 31)
        have hyl := ho5.1
        have hcp5 := owns_cap ho5
        have HB5 := Lib.hid (gb_trans HB4.out hg5)
        have hs5 := hg5.size
        have HY := Lib.hid (show PsCells (w5.alloc (.cells #[.slice a1 n1 c1, .slice a2 n2 c2] 31)) w.heap.size g1 k D ys from hy)
        have HO5 := Lib.hid ho5
        have Q1 := Lib.hid (Rx.of_rl (lo := w.heap.size) (g := g1) (r1.alloc (.cells #[.slice a1 n1 c1, .slice a2 n2 c2] 31)) (by omega) (by omega))
        have Q2 := Lib.hid (Rx.of_rl (lo := w.heap.size) (g := g1) (r2.alloc (.cells #[.slice a1 n1 c1, .slice a2 n2 c2] 31)) (by omega) (by omega))
        have HR5 := Lib.hid (hR5.alloc (.cells #[.slice a1 n1 c1, .slice a2 n2 c2] 31))
        clear hy ho5 r1 r2 hR5 hg5 HP4 HB4 hR4
        go_wp2_with (at_builtin; refine wpList_append_lies _ rfl _ _ _ rfl w.heap.size 31 p0 (.agg #[.slice none 0 0, .slice none 0 0]) 2 48 Try.underlying23 pi0 pz0 pz1 pz2 rfl (by omega) (.slice (some ⟨g1, 0, none⟩) k k1) k ys rfl HO5.out ⟨w5.heap.size, 0, none⟩ 1 1 [.slice a1 n1 c1, .slice a2 n2 c2] rfl rfl ?d1 (one2 _ _ _ _ _ _) (by omega) ?d3 ?d4 ?d5 (w5.heap.size + 1) ?d6 ?_)
        try case d1 => exact World.news_of_block (cs := #[.slice a1 n1 c1, .slice a2 n2 c2]) (t := 31) (fr := (0, 0)) (heap_alloc_new w5 _)
        case d3 => unfold maxLen; omega
        case d4 => omega
        case d5 => first | omega | (simp; omega)
        try case d6 => simp
        intro g6 k6 w6 hown6 hg6 hat6 hlt6
        have hg6 : (w5.alloc (.cells #[.slice a1 n1 c1, .slice a2 n2 c2] 31)).grownBy w6 (some g1) := hg6
        have hat6 : g6 = g1 ∨ g6 = w5.heap.size + 1 := by rcases hat6 with h | h; (simp [Value.ownBlock] at h; exact .inl h.symm); exact .inr h
        have hd6 := DPs.put hyl HY.out Q1.out Q2.out hown6 (by rcases hat6 with h | h; exact .inl h; exact .inr (by simp; omega)) hg6
        have HB6 := Lib.hid (gb_new (gb_alloc HB5.out (.cells #[.slice a1 n1 c1, .slice a2 n2 c2] 31)) hg6 (by omega))
        have HP6 := Lib.hid hd6
        have HR6 := Lib.hid (HR5.out.gr hg6 (by omega))
        have HL6 := Lib.hid (lensB_add (f1 := f1) (f2 := f2) HD.out hn1 hn2)
        have hs6 := HB6.out.size
        clear hown6 hg6 hd6 HY HO5 Q1 Q2 HB5 HR5
        cases hpv : pathsV n (addD D k ⟨n1, f1, n2, f2⟩) (k + 1)
        · have V := Lib.hid hpv
          clear hpv
          go_wp2_with fail
          refine (sPathsV_is false _ _ _ _ _ _ V.out HP6.out.rn (by omega)).mono ?_
          rintro e w7 ⟨rfl, hb7⟩
          have hg7 := gb_below HB6.out hb7
          have HH : Hid (PathsR 31 B w R (p + 2 + 100 * (i + 1)) n (.slice (some ⟨g, 0, none⟩) k c) w7) := ⟨g, k, c, D, q5, rfl, hk, HD.out, HP3.out.grown hlt hg7, HR6.out.call hb7, by omega, gb_trans HG3.out hg7⟩
          clear hb7 hg7 V
          go_wp2_with fail
          go_roundw
          case rel => exact ⟨i + 1, by omega, by go_num, HH.out⟩
          case measure => simp [intOf]; omega
        · have V := Lib.hid hpv
          have hk8 := (pathsV_iff.1 hpv).2.2.1
          clear hpv
          go_wp2_with fail
          refine (sPathsV_is true _ _ _ _ _ _ V.out HP6.out.rn (by omega)).mono ?_
          rintro e w7 ⟨rfl, hb7⟩
          have hg7 := gb_below HB6.out hb7
          have HH : Hid (PathsR 31 B w R (p + 2 + 100 * (i + 1)) n (.slice (some ⟨g6, 0, none⟩) (k + 1) k6) w7) := ⟨g6, k + 1, k6, _, q5, rfl, hk8, HL6.out, HP6.out.call hb7, HR6.out.call hb7, by omega, gb_trans HG3.out hg7⟩
          clear hb7 hg7 V
          go_wp2_with fail
          go_roundw
          case rel => exact ⟨i + 1, by omega, by go_num, HH.out⟩
          case measure => simp [intOf]; omega
      · have d0 : (v == 0) = false := beq_eq_false_iff_ne.2 h0
        clear h0
        go_wp2_with fail
        refine (pick_any B R (q + 1) 60 _ HR3.out (by omega) (by omega) (by omega)).mono ?_
        rintro e w4 ⟨frm, rfl, hfa, hfb, hR4, hg4⟩
        have HP4 := Lib.hid (HP3.out.grown hlt hg4)
        have HG4 := Lib.hid (gb_trans HG3.out hg4)
        have hs4 := HG4.out.size
        clear hg4 HP3 HG3 HR3
        go_wp2_with fail
        refine (runs_any B R (q + 1 + 1) n _ hR4 (by omega) hn4).mono ?_
        rintro e w5 ⟨A5, r5, c5, f5, q5, rfl, hr5, rl5, hR5, hq5, hg5⟩
        have HP5 := Lib.hid (HP4.out.grown hlt hg5)
        have HG5 := Lib.hid (gb_trans HG4.out hg5)
        have hs5 := HG5.out.size
        have RL5 := Lib.hid rl5.rn
        have HR5 := Lib.hid hR5
        clear hg5 HP4 HG4 hR4 hR5 rl5
        obtain ⟨ok, k', E, hk', hE, hS, _⟩ := d_PathsAdd n frm k D r5 f5 (by omega) (by omega)
        have SS := Lib.hid hS
        have HE := Lib.hid hE
        clear hS hE
        go_wp2_with fail
        refine (SS.out _ _ _ _ _ HP5.out.rn RL5.out).mono ?_
        rintro e w6 ⟨g6, c6, rfl, hgr, hb6⟩
        have HG6 := Lib.hid (gb_below HG5.out hb6)
        have HP6 := Lib.hid (DPs.of_gr (lo := w.heap.size) hgr hs5)
        have HO6 := Lib.hid (HP5.out.call hb6)
        have HR6 := Lib.hid (HR5.out.call hb6)
        clear hgr hb6 SS RL5 HP5 HG5 HR5
        cases ok
        · have HH : Hid (PathsR 31 B w R (p + 2 + 100 * (i + 1)) n (.slice (some ⟨g, 0, none⟩) k c) w6) := ⟨g, k, c, D, q5, rfl, hk, HD.out, HO6.out, HR6.out, by omega, HG6.out⟩
          go_wp2_with fail
          go_roundw
          case rel => exact ⟨i + 1, by omega, by go_num, HH.out⟩
          case measure => simp [intOf]; omega
        · have HH : Hid (PathsR 31 B w R (p + 2 + 100 * (i + 1)) n (.slice (some ⟨g6, 0, none⟩) k' c6) w6) := ⟨g6, k', c6, E, q5, rfl, hk', HE.out, HP6.out, HR6.out, by omega, HG6.out⟩
          go_wp2_with fail
          go_roundw
          case rel => exact ⟨i + 1, by omega, by go_num, HH.out⟩
          case measure => simp [intOf]; omega
    · obtain rfl : i = many := by omega
      by_cases hk0 : k = 0
      · subst hk0
        have z0 : decide ((0 : Int) < ((0 : Nat) : Int)) = false := rfl
        have z1 : decide ((0 : Int) < (0 : Int)) = false := rfl
        have HR := Lib.hid hR
        clear hR
        go_wp2
        go_ret2
        exact ⟨n, g, 0, c, D, q, rfl, hn4, by omega, HD.out, HP.out, HR.out, by omega, HG.out⟩
      · have z0 : decide ((0 : Int) < (k : Int)) = true := decide_eq_true (by omega)
        go_wp2_with fail
        refine (pick_any B R q 40 _ hR (by omega) (by omega) (by omega)).mono ?_
        rintro e w3 ⟨v, rfl, hva, hvb, hR, hg3⟩
        have HP3 := Lib.hid (HP.out.grown hlt hg3)
        have HG3 := Lib.hid (gb_trans HG.out hg3)
        have HR3 := Lib.hid hR
        have hs3 := HG3.out.size
        clear hR hg3 HP HG
        by_cases h0 : v = 0
        · subst h0
          obtain ⟨xs, ho, hx⟩ := HP3.out
          have hglt := HP3.out.lt
          have hcp := owns_cap ho
          obtain ⟨a1, c1, a2, c2, x1, x2, r1, r2⟩ := hx 0 (by omega)
          have y1 := ho.cells (g := g) rfl _ _ x1
          have y2 := ho.cells (g := g) rfl _ _ x2
          rw [add_at] at y1 y2
          simp only [Nat.zero_mul, Nat.zero_add] at y1 y2
          have hD0 := HD.out 0 (by omega)
          obtain ⟨⟨m1, f1, m2, f2⟩, hD0e⟩ : ∃ P : PD, D 0 = P := ⟨_, rfl⟩
          rw [hD0e] at r1 r2 y1 y2 hD0
          simp only at r1 r2 y1 y2 hD0
          have dps := HP3.out.alloc (.cells #[.slice a1 m1 c1, .slice a2 m2 c2] 31)
          obtain ⟨ys, ho5, hy⟩ := dps
          have hyl := ho5.1
          have HY := Lib.hid (show PsCells (w3.alloc (.cells #[.slice a1 m1 c1, .slice a2 m2 c2] 31)) w.heap.size g k D ys from hy)
          have HO5 := Lib.hid ho5
          have Q1 := Lib.hid (r1.keep (w' := w3.alloc (.cells #[.slice a1 m1 c1, .slice a2 m2 c2] 31)) (by simp) (fun k _ hk _ => blk_alloc_lt _ _ _ hk))
          have Q2 := Lib.hid (r2.keep (w' := w3.alloc (.cells #[.slice a1 m1 c1, .slice a2 m2 c2] 31)) (by simp) (fun k _ hk _ => blk_alloc_lt _ _ _ hk))
          have k1 : (0 : Int) < (k : Int) := by omega
          have k2 : 0 < k := by omega
          clear hx ho x1 x2 r1 r2 hy ho5 hD0e
          go_wp2_with (at_builtin; refine wpList_append_lies _ rfl _ _ _ rfl w.heap.size 31 p0 (.agg #[.slice none 0 0, .slice none 0 0]) 2 48 Try.underlying23 pi0 pz0 pz1 pz2 rfl (by omega) (.slice (some ⟨g, 0, none⟩) k c) k ys rfl HO5.out ⟨w3.heap.size, 0, none⟩ 1 1 [.slice a1 m1 c1, .slice a2 m2 c2] rfl rfl ?f1 (one2 _ _ _ _ _ _) (by omega) ?f3 ?f4 ?f5 (w3.heap.size + 1) ?f6 ?_)
          try case f1 => exact World.news_of_block (cs := #[.slice a1 m1 c1, .slice a2 m2 c2]) (t := 31) (fr := (0, 0)) (heap_alloc_new w3 _)
          case f3 => unfold maxLen; omega
          case f4 => omega
          case f5 => first | omega | (simp; omega)
          try case f6 => simp
          intro g6 k6 w6 hown6 hg6 hat6 hlt6
          have hg6 : (w3.alloc (.cells #[.slice a1 m1 c1, .slice a2 m2 c2] 31)).grownBy w6 (some g) := hg6
          have hat6 : g6 = g ∨ g6 = w3.heap.size + 1 := by rcases hat6 with h | h; (simp [Value.ownBlock] at h; exact .inl h.symm); exact .inr h
          have hd6 := DPs.put hyl HY.out Q1.out Q2.out hown6 (by rcases hat6 with h | h; exact .inl h; exact .inr (by simp; omega)) hg6
          have HP6 := Lib.hid hd6
          have HR6 := Lib.hid ((HR3.out.alloc (.cells #[.slice a1 m1 c1, .slice a2 m2 c2] 31)).gr hg6 (by omega))
          have HB6 := Lib.hid (gb_new (gb_alloc HG3.out (.cells #[.slice a1 m1 c1, .slice a2 m2 c2] 31)) hg6 (by omega))
          have HL6 := Lib.hid (lensB_add (f1 := f1) (f2 := f2) HD.out hD0.1 hD0.2)
          clear hown6 hg6 hd6 HY HO5 Q1 Q2 y1 y2
          go_wp2_with fail
          go_ret2
          exact ⟨n, g6, k + 1, k6, _, q + 1, rfl, hn4, by omega, HL6.out, HP6.out, HR6.out, by omega, HB6.out⟩
        · have d0 : (v == 0) = false := beq_eq_false_iff_ne.2 h0
          clear h0
          go_wp2
          go_ret2
          exact ⟨n, g, k, c, D, q + 1, rfl, hn4, by omega, HD.out, HP3.out, HR3.out, by omega, HG3.out⟩
end Go.Proofs.Ytjppkcfbhhjniaa
