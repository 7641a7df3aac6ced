/-
  Contracts of the draws of a code, an index, indexes.
-/
import Derived.Test.YtanfhgliilkhjaaBkDP
namespace Go.Proofs.Ytanfhgliilkhjaa
open Go.RowKit Go.Deep
set_option linter.unusedVariables false

/-- What a draw of a list of numbers leaves. -/
def NumsDr (T : TypeId) (B : Nat) (w : World) (R q0 m : Nat) (e : Ending) (w' : World) : Prop :=
  ∃ (g n c : Nat) (l : List Int) (q : Nat), e = .returned (.slice (some ⟨g, 0, none⟩) n c) ∧ n ≤ m ∧ DI w' T w.heap.size g n c l ∧ Rd B w' R q ∧ q ≤ q0 ∧ w.grownBy w' (some R)
set_option maxRecDepth 100000 in
set_option maxHeartbeats 8000000 in
theorem code_any (B R p : Nat) (w : World) (h : Rd B w R p) (hp : p ≤ 50000) :
    Calls Try.prog 85 #[.pointer (some ⟨R, 0, none⟩)] w (NumsDr 3 B w R (p + 10) 6) := by
  obtain ⟨i0, ji0, jz0, jz1, jz2⟩ := info_parts intInfo
  have hlt := h.lt
  have hbs := h.base
  have hr0 := h.alloc (.cells #[] 3)
  have hd0 := DI.new0 w 3 w.heap.size (Nat.le_refl _)
  have hg0 : w.grownBy (w.alloc (.cells #[] 3)) (some R) := gb_alloc (gb_refl w _) _
  clear h
  go_enter Try.func85, Try.ntmps85
  go_wp2_with fail
  refine (pick_any B R p 3 _ hr0 (by omega) (by omega) (by omega)).mono ?_
  rintro e w1 ⟨v0, rfl, hv0, hv1, hR, hg⟩
  have hd := hd0.kept hg (by omega)
  have hg := gb_trans hg0 hg
  have HD := Lib.hid hd
  have HG := Lib.hid hg
  obtain ⟨n, hn⟩ : ∃ n : Nat, 1 + v0 = (n : Int) := ⟨(1 + v0).toNat, by omega⟩
  have hn3 : 1 ≤ n ∧ n ≤ 3 := by omega
  clear hr0 hd0 hg0 hd hg
  go_wp2_with fail
  (try rw [hn])
  clear hn hv0 hv1
  go_loopw [3, 5] (fun v i wr => ∃ (j g c q : Nat) (l : List Int), j ≤ n ∧ i = .int .i64 j ∧ v = .slice (some ⟨g, 0, none⟩) j c ∧ Hid (DI wr 3 w.heap.size g j c l) ∧ Rd B wr R q ∧ q ≤ p + 1 + j ∧ Hid (w.grownBy wr (some R))) (fun _ i _ => n - (intOf i).toNat)
  case atStart => exact ⟨0, _, _, p + 1, [], by omega, rfl, rfl, HD.out, hR, by omega, HG.out⟩
  case round =>
    clear HD HG hR
    obtain ⟨j, g, c, q, l, hj, rfl, rfl, hD, hR, hq, hG⟩ := hrel
    have hs := hG.out.size
    have hgl := hD.out.lt
    by_cases hlt2 : j < n
    · go_wp2_with fail
      refine (pick_any B R q 3 _ hR (by omega) (by omega) (by omega)).mono ?_
      rintro e w2 ⟨v, rfl, hva, hvb, hR, hg2⟩
      have HD := Lib.hid ((hD.out.kept hg2 (by omega)).alloc (.cells #[.int .i64 (1 + v)] 3))
      have HG := Lib.hid (gb_alloc (gb_trans hG.out hg2) (.cells #[.int .i64 (1 + v)] 3))
      have HR := Lib.hid (hR.alloc (.cells #[.int .i64 (1 + v)] 3))
      have hcp := HD.out.cap
      have hs2 := hg2.size
      have hll := HD.out.2
      have hgl2 := HD.out.lt
      clear hD hG hR hg2
      go_wp2_with (at_builtin; refine wpList_append_lies _ rfl _ _ _ rfl w.heap.size 3 i0 (.int .i64 0) 1 8 Try.underlying23 ji0 jz0 jz1 jz2 rfl (by omega) (.slice (some ⟨g, 0, none⟩) j c) j (nums l) rfl HD.out.1 ⟨w2.heap.size, 0, none⟩ 1 1 [.int .i64 (1 + v)] rfl rfl ?d1 (by simp [Value.oneCell']) (by omega) ?d3 ?d4 ?d5 (w2.heap.size + 1) ?d6 ?_)
      try case d1 => exact World.news_of_block (cs := #[.int .i64 (1 + v)]) (t := 3) (fr := (0, 0)) (heap_alloc_new w2 _)
      case d3 => unfold maxLen; omega
      case d4 => omega
      case d5 => first | omega | (simp; omega)
      try case d6 => simp
      intro g6 k6 w6 hown6 hg6 hat6 hlt6
      have hg6 : (w2.alloc (.cells #[.int .i64 (1 + v)] 3)).grownBy w6 (some g) := hg6
      have HD6 : Hid (DI w6 3 w.heap.size g6 (j + 1) k6 (l ++ [1 + v])) := ⟨by rw [nums_snoc]; exact hown6, by rw [List.length_append, hll]; rfl⟩
      have HG6 := Lib.hid (gb_new HG.out hg6 (by omega))
      have HR6 := Lib.hid (HR.out.gr hg6 (by omega))
      clear hown6 hg6 HD HG HR hll
      go_wp2_with fail
      go_roundw
      case rel => exact ⟨j + 1, g6, k6, q + 1, _, by omega, by go_num, rfl, HD6, HR6.out, by omega, HG6⟩
      case measure => simp [intOf]; omega
    · obtain rfl : j = n := by omega
      go_wp2_with fail
      refine (pick_any B R q 30 _ hR (by omega) (by omega) (by omega)).mono ?_
      rintro e w2 ⟨v, rfl, hva, hvb, hR, hg2⟩
      have HD := Lib.hid (hD.out.kept hg2 (by omega))
      have HG := Lib.hid (gb_trans hG.out hg2)
      have hs2 := hg2.size
      have hcp := HD.out.cap
      clear hD hG hg2
      by_cases h0 : v = 0
      · subst h0
        have bx := Bx.new w2 [.int .i64 0, .int .i64 7, .int .i64 6, .int .i64 (-1)] 3
        have HR2 := Lib.hid (hR.alloc (.cells #[.int .i64 0, .int .i64 7, .int .i64 6, .int .i64 (-1)] 3))
        have HD2 := Lib.hid (HD.out.alloc (.cells #[.int .i64 0, .int .i64 7, .int .i64 6, .int .i64 (-1)] 3))
        have HG2 := Lib.hid (gb_alloc HG.out (.cells #[.int .i64 0, .int .i64 7, .int .i64 6, .int .i64 (-1)] 3))
        clear hR HD HG
        go_wp2_with fail
        refine (pick_any B R (q + 1) 4 _ HR2.out (by omega) (by omega) (by omega)).mono ?_
        rintro e w3 ⟨v, rfl, hva, hvb, hR, hg3⟩
        obtain ⟨t, rfl⟩ := Int.eq_ofNat_of_zero_le hva
        have bx := bx.grown hg3 (by simp; omega)
        obtain ⟨x, hx⟩ : ∃ x : Int, w3.cell? ⟨w2.heap.size, t, none⟩ = some (.int .i64 x) := by
          have ht : t = 0 ∨ t = 1 ∨ t = 2 ∨ t = 3 := by omega
          rcases ht with rfl | rfl | rfl | rfl
          · exact ⟨_, bx.cell (i := 0) (by simp)⟩
          · exact ⟨_, bx.cell (i := 1) (by simp)⟩
          · exact ⟨_, bx.cell (i := 2) (by simp)⟩
          · exact ⟨_, bx.cell (i := 3) (by simp)⟩
        have HD3 := Lib.hid (HD2.out.kept hg3 (by omega))
        have HG3 := Lib.hid (gb_trans HG2.out hg3)
        have hll := HD3.out.2
        have hgl3 := HD3.out.lt
        obtain ⟨y, hy⟩ : ∃ y, w3.cell? ⟨g, 0, none⟩ = some y := by
          have := HD3.out.1.cells (g := g) rfl 0 _ (nums_at (by omega))
          rw [add_at] at this
          exact ⟨_, this⟩
        have hfz := HD3.out.1.frozenAt 0
        have HD4 := Lib.hid (HD3.out.set (k := 0) (by omega) x)
        have HG4 := Lib.hid (gb_store HG3.out (q := ⟨g, 0, none⟩) (by simp; omega) (.int .i64 x))
        have HR4 := Lib.hid (hR.other (a := ⟨g, 0, none⟩) (by simp; omega) (by simp; omega) (.int .i64 x))
        have hj0 : (0 : Int) < (j : Int) := by omega
        have ht4 : (t : Int) < 4 := by omega
        have ht0 : (0 : Int) ≤ (t : Int) := by omega
        have hs3 := hg3.size
        simp at hs3
        clear bx hR hg3 HD2 HG2 HR2 HD3 HG3 hva hvb
        go_wp2
        go_ret
        exact ⟨_, _, _, _, q + 1 + 1, rfl, by omega, HD4.out, HR4.out, by omega, HG4.out⟩
      have d0 : (v == 0) = false := beq_eq_false_iff_ne.2 h0
      by_cases h1 : v = 1
      · subst h1
        have HR2 := Lib.hid (hR.alloc (.cells #[] 3))
        have HD2 := Lib.hid (DI.new0 w2 3 w.heap.size (by omega))
        clear h0 hR
        go_wp2
        go_ret
        exact ⟨_, 0, 0, [], q + 1, rfl, by omega, HD2.out, HR2.out, by omega, gb_alloc HG.out _⟩
      have d1 : (v == 1) = false := beq_eq_false_iff_ne.2 h1
      by_cases h2 : v = 2
      · subst h2
        have HR2 := Lib.hid (hR.alloc (.cells #[.int .i64 1, .int .i64 2, .int .i64 1, .int .i64 2, .int .i64 1, .int .i64 1] 3))
        have HG2 := Lib.hid (gb_alloc HG.out (.cells #[.int .i64 1, .int .i64 2, .int .i64 1, .int .i64 2, .int .i64 1, .int .i64 1] 3))
        have HL := Lib.hid (fun n hn => DI.lit w2 3 w.heap.size (by omega) [1, 2, 1, 2, 1, 1] n hn (by simp))
        clear hR HD HG h0 h1
        go_wp2_with fail
        refine (pick_any B R (q + 1) 2 _ HR2.out (by omega) (by omega) (by omega)).mono ?_
        rintro e w3 ⟨v, rfl, hva, hvb, hR, hg3⟩
        have hs3 := hg3.size
        simp at hs3
        have hvv : v = 0 ∨ v = 1 := by omega
        have HG3 := Lib.hid (gb_trans HG2.out hg3)
        rcases hvv with rfl | rfl
        · have HD3 := Lib.hid ((HL.out 5 (by simp)).kept hg3 (by omega))
          clear hg3 HL HG2 HR2
          go_wp2
          go_ret
          exact ⟨_, _, _, _, q + 1 + 1, rfl, by omega, HD3.out, hR, by omega, HG3.out⟩
        · have HD3 := Lib.hid ((HL.out 6 (by simp)).kept hg3 (by omega))
          clear hg3 HL HG2 HR2
          go_wp2
          go_ret
          exact ⟨_, _, _, _, q + 1 + 1, rfl, by omega, HD3.out, hR, by omega, HG3.out⟩
      have d2 : (v == 2) = false := beq_eq_false_iff_ne.2 h2
      clear h0 h1 h2
      go_wp2
      go_ret
      exact ⟨_, _, _, _, q + 1, rfl, by omega, HD.out, hR, by omega, HG.out⟩
/-- What a draw of an index leaves. -/
def AtDr (B : Nat) (w : World) (R q0 : Nat) (e : Ending) (w' : World) : Prop := ∃ (v : Int) (q : Nat), e = .returned (.int .i64 v) ∧ Rd B w' R q ∧ q ≤ q0 ∧ w.grownBy w' (some R)
set_option maxHeartbeats 1000000 in
theorem at_any (B R p n : Nat) (w : World) (h : Rd B w R p) (hp : p ≤ 50000) (hn : n ≤ 1000) :
    Calls Try.prog 87 #[.pointer (some ⟨R, 0, none⟩), .int .i64 (n : Int)] w (AtDr B w R (p + 2)) := by
  have hlt := h.lt
  have hbs := h.base
  by_cases h0 : n = 0
  · subst h0
    have bx := Bx.new w [.int .i64 (-1), .int .i64 ((0 : Nat) : Int)] 3
    have HR2 := Lib.hid (h.alloc (.cells #[.int .i64 (-1), .int .i64 ((0 : Nat) : Int)] 3))
    have HG2 := Lib.hid (gb_alloc (gb_refl w (some R)) (.cells #[.int .i64 (-1), .int .i64 ((0 : Nat) : Int)] 3))
    simp only [Int.natCast_zero] at bx HR2 HG2 ⊢
    clear h
    go_enter Try.func87, Try.ntmps87
    go_wp2_with fail
    refine (pick_any B R p 2 _ HR2.out (by omega) (by omega) (by omega)).mono ?_
    rintro e w3 ⟨v, rfl, hva, hvb, hR, hg3⟩
    obtain ⟨t, rfl⟩ := Int.eq_ofNat_of_zero_le hva
    have bx := bx.grown hg3 (by simp; omega)
    obtain ⟨x, hx⟩ : ∃ x : Int, w3.cell? ⟨w.heap.size, t, none⟩ = some (.int .i64 x) := by
      have ht : t = 0 ∨ t = 1 := by omega
      rcases ht with rfl | rfl
      · exact ⟨_, bx.cell (i := 0) (by simp)⟩
      · exact ⟨_, bx.cell (i := 1) (by simp)⟩
    have ht4 : (t : Int) < 2 := by omega
    have ht0 : (0 : Int) ≤ (t : Int) := by omega
    have HG3 := Lib.hid (gb_trans HG2.out hg3)
    clear bx hg3 HG2 HR2 hva hvb
    go_wp2
    go_ret
    exact ⟨_, p + 1, rfl, hR, by omega, HG3.out⟩
  have d0 : ((n : Int) == 0) = false := beq_eq_false_iff_ne.2 (by omega)
  go_enter Try.func87, Try.ntmps87
  go_wp2_with fail
  refine (pick_any B R p 20 _ h (by omega) (by omega) (by omega)).mono ?_
  rintro e w2 ⟨v, rfl, hva, hvb, hR, hg2⟩
  have HG := Lib.hid hg2
  have hs2 := hg2.size
  clear h hg2
  by_cases hv : v = 0
  · subst hv
    have bx := Bx.new w2 [.int .i64 (-1), .int .i64 (n : Int)] 3
    have HR2 := Lib.hid (hR.alloc (.cells #[.int .i64 (-1), .int .i64 (n : Int)] 3))
    have HG2 := Lib.hid (gb_alloc HG.out (.cells #[.int .i64 (-1), .int .i64 (n : Int)] 3))
    clear hR HG
    go_wp2_with fail
    refine (pick_any B R (p + 1) 2 _ HR2.out (by omega) (by omega) (by omega)).mono ?_
    rintro e w3 ⟨v, rfl, hva, hvb, hR, hg3⟩
    obtain ⟨t, rfl⟩ := Int.eq_ofNat_of_zero_le hva
    have bx := bx.grown hg3 (by simp; omega)
    obtain ⟨x, hx⟩ : ∃ x : Int, w3.cell? ⟨w2.heap.size, t, none⟩ = some (.int .i64 x) := by
      have ht : t = 0 ∨ t = 1 := by omega
      rcases ht with rfl | rfl
      · exact ⟨_, bx.cell (i := 0) (by simp)⟩
      · exact ⟨_, bx.cell (i := 1) (by simp)⟩
    have ht4 : (t : Int) < 2 := by omega
    have ht0 : (0 : Int) ≤ (t : Int) := by omega
    have HG3 := Lib.hid (gb_trans HG2.out hg3)
    clear bx hg3 HG2 HR2 hva hvb
    go_wp2
    go_ret
    exact ⟨_, p + 1 + 1, rfl, hR, by omega, HG3.out⟩
  · have d1 : (v == 0) = false := beq_eq_false_iff_ne.2 hv
    clear hv
    go_wp2_with fail
    refine (pick_any B R (p + 1) n _ hR (by omega) (by omega) (by omega)).mono ?_
    rintro e w3 ⟨u, rfl, hua, hub, hR3, hg3⟩
    have HG3 := Lib.hid (gb_trans HG.out hg3)
    clear HG hg3 hR
    go_wp2
    go_ret
    exact ⟨_, p + 1 + 1, rfl, hR3, by omega, HG3.out⟩
set_option maxRecDepth 100000 in
set_option maxHeartbeats 4000000 in
theorem list_any (B R p n : Nat) (w : World) (h : Rd B w R p) (hp : p ≤ 40000) (hn : n ≤ 1000) :
    Calls Try.prog 63 #[.pointer (some ⟨R, 0, none⟩), .int .i64 (n : Int)] w (NumsDr 3 B w R (p + 20) 5) := by
  obtain ⟨i0, ji0, jz0, jz1, jz2⟩ := info_parts intInfo
  have hlt := h.lt
  have hbs := h.base
  have hr0 := h.alloc (.cells #[] 3)
  have hd0 := DI.new0 w 3 w.heap.size (Nat.le_refl _)
  have hg0 : w.grownBy (w.alloc (.cells #[] 3)) (some R) := gb_alloc (gb_refl w _) _
  clear h
  go_enter Try.func63, Try.ntmps63
  go_wp2_with fail
  refine (pick_any B R p 6 _ hr0 (by omega) (by omega) (by omega)).mono ?_
  rintro e w1 ⟨v0, rfl, hv0, hv1, hR, hg⟩
  have hd := hd0.kept hg (by omega)
  have hg := gb_trans hg0 hg
  have HD := Lib.hid hd
  have HG := Lib.hid hg
  obtain ⟨k, rfl⟩ := Int.eq_ofNat_of_zero_le hv0
  clear hr0 hd0 hg0 hd hg hv0
  go_wp2_with fail
  go_loopw [5, 7] (fun v i wr => ∃ (j g c q : Nat) (l : List Int), j ≤ k ∧ i = .int .i64 j ∧ v = .slice (some ⟨g, 0, none⟩) j c ∧ Hid (DI wr 3 w.heap.size g j c l) ∧ Rd B wr R q ∧ q ≤ p + 1 + 2 * j ∧ Hid (w.grownBy wr (some R))) (fun _ i _ => k - (intOf i).toNat)
  case atStart => exact ⟨0, _, _, p + 1, [], by omega, rfl, rfl, HD.out, hR, by omega, HG.out⟩
  case round =>
    clear HD HG hR
    obtain ⟨j, g, c, q, l, hj, rfl, rfl, hD, hR, hq, hG⟩ := hrel
    have hs := hG.out.size
    have hgl := hD.out.lt
    by_cases hlt2 : j < k ∧ 0 < n
    · have d1 : decide ((j : Int) < (k : Int)) = true := decide_eq_true (by omega)
      have d2 : decide ((0 : Int) < (n : Int)) = true := decide_eq_true (by omega)
      have d3 : decide (j < k) = true := decide_eq_true (by omega)
      have d4 : decide (0 < n) = true := decide_eq_true (by omega)
      have hjk := hlt2.1
      have hn0 := hlt2.2
      clear hlt2
      go_wp2_with fail
      refine (at_any B R q n _ hR (by omega) (by omega)).mono ?_
      rintro e w2 ⟨v, q2, rfl, hR, hq2, hg2⟩
      have HD := Lib.hid ((hD.out.kept hg2 (by omega)).alloc (.cells #[.int .i64 v] 3))
      have HG := Lib.hid (gb_alloc (gb_trans hG.out hg2) (.cells #[.int .i64 v] 3))
      have HR := Lib.hid (hR.alloc (.cells #[.int .i64 v] 3))
      have hcp := HD.out.cap
      have hs2 := hg2.size
      have hll := HD.out.2
      have hgl2 := HD.out.lt
      clear hD hG hR hg2
      go_wp2_with (at_builtin; refine wpList_append_lies _ rfl _ _ _ rfl w.heap.size 3 i0 (.int .i64 0) 1 8 Try.underlying23 ji0 jz0 jz1 jz2 rfl (by omega) (.slice (some ⟨g, 0, none⟩) j c) j (nums l) rfl HD.out.1 ⟨w2.heap.size, 0, none⟩ 1 1 [.int .i64 v] rfl rfl ?d1 (by simp [Value.oneCell']) (by omega) ?d3 ?d4 ?d5 (w2.heap.size + 1) ?d6 ?_)
      try case d1 => exact World.news_of_block (cs := #[.int .i64 v]) (t := 3) (fr := (0, 0)) (heap_alloc_new w2 _)
      case d3 => unfold maxLen; omega
      case d4 => omega
      case d5 => first | omega | (simp; omega)
      try case d6 => simp
      intro g6 k6 w6 hown6 hg6 hat6 hlt6
      have hg6 : (w2.alloc (.cells #[.int .i64 v] 3)).grownBy w6 (some g) := hg6
      have HD6 : Hid (DI w6 3 w.heap.size g6 (j + 1) k6 (l ++ [v])) := ⟨by rw [nums_snoc]; exact hown6, by rw [List.length_append, hll]; rfl⟩
      have HG6 := Lib.hid (gb_new HG.out hg6 (by omega))
      have HR6 := Lib.hid (HR.out.gr hg6 (by omega))
      clear hown6 hg6 HD HG HR hll
      go_wp2_with fail
      go_roundw
      case rel => exact ⟨j + 1, g6, k6, q2, _, by omega, by go_num, rfl, HD6, HR6.out, by omega, HG6⟩
      case measure => simp [intOf]; omega
    · by_cases hj2 : j < k
      · have d1 : decide ((j : Int) < (k : Int)) = true := decide_eq_true (by omega)
        have d3 : decide (j < k) = true := decide_eq_true (by omega)
        obtain rfl : n = 0 := by omega
        clear hlt2
        go_wp2
        go_ret
        exact ⟨_, _, _, _, q, rfl, by omega, hD.out, hR, by omega, hG.out⟩
      · have d1 : decide ((j : Int) < (k : Int)) = false := decide_eq_false (by omega)
        have d3 : decide (j < k) = false := decide_eq_false (by omega)
        clear hlt2
        go_wp2
        go_ret
        exact ⟨_, _, _, _, q, rfl, by omega, hD.out, hR, by omega, hG.out⟩
end Go.Proofs.Ytanfhgliilkhjaa
