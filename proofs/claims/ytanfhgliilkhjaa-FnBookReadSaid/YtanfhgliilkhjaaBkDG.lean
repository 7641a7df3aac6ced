/-
  Contracts of the draw of a book and a ring.
-/
import Derived.Test.YtanfhgliilkhjaaBkDW
import Derived.Test.YtanfhgliilkhjaaBkR
import Derived.Deep.RegionHeld3
namespace Go.Proofs.Ytanfhgliilkhjaa
open Go.RowKit Go.Deep
set_option linter.unusedVariables false

/-- What l91Ring leaves. -/
def RingDr (T : TypeId) (B : Nat) (w : World) (R q0 : Nat) (e : Ending) (w' : World) : Prop :=
  ∃ (g k c : Nat) (D : Nat → LD) (g2 n c2 : Nat) (f : Nat → Int), e = .returned (.tuple #[.slice (some ⟨g, 0, none⟩) k c, .slice (some ⟨g2, 0, none⟩) n c2]) ∧ k ≤ 6 ∧ lens6 D k ∧ DLs w' T w.heap.size g k c D ∧ (n ≤ 20 ∧ n ≤ c2 ∧ c2 ≤ maxLen) ∧ Rn w' w'.heap.size (some ⟨g2, 0, none⟩) n f ∧ w.grownBy w' (some R)
theorem ringV_be (D : Nat → LD) (m n : Nat) (f : Nat → Int) : ∃ ok xs, RingV D m n f ok xs ∧ xs.length ≤ 20 := by
  rcases Classical.em (ringV D m n f) with h | h
  · exact ⟨true, _, .inl ⟨h, rfl, rfl⟩, h.2.2⟩
  · exact ⟨false, _, .inr ⟨h, rfl, rfl⟩, by simp⟩
/-- Numbers in a block that is not the reader's. -/
theorem rn_pick {w w' : World} {B g r n : Nat} {f : Nat → Int} (h : Rn w B (some ⟨g, 0, none⟩) n f) (hr : g ≠ r) (hg : w.grownBy w' (some r)) : Rn w' w'.heap.size (some ⟨g, 0, none⟩) n f := fun hn => by
  obtain ⟨b, off, e, hb, hc⟩ := h hn
  have e2 := e
  simp only [Option.some.injEq, Addr.mk.injEq, and_true] at e
  obtain ⟨rfl, rfl⟩ := e
  have hlt := World.block_lt_of_cell? w _ (hc 0 hn)
  have hlt : g < w.heap.size := hlt
  exact ⟨g, 0, rfl, by have := hg.size; omega, fun i hi => (World.cell?_of_block (w := w) (a := ⟨g, 0 + i, none⟩) (hg.block g hlt (fun e => hr (by injection e)))).trans (hc i hi)⟩
/-- The literal of three. -/
theorem rn_lit (w : World) (T : TypeId) (t : Nat) (ht : t < 3) : Rn (w.alloc (.cells #[.int .i64 1, .int .i64 7, .int .i64 0] T)) (w.heap.size + 1) (some ⟨w.heap.size, 0, none⟩) (1 + t) (fun i => [1, 7, 0].getD i 0) := fun _ => by
  refine ⟨w.heap.size, 0, rfl, by omega, fun i hi => ?_⟩
  have bx := Bx.new w [.int .i64 1, .int .i64 7, .int .i64 0] T
  have h3 : i = 0 ∨ i = 1 ∨ i = 2 := by omega
  rcases h3 with rfl | rfl | rfl
  · exact bx.cell (i := 0) (by simp)
  · exact bx.cell (i := 1) (by simp)
  · exact bx.cell (i := 2) (by simp)
set_option maxRecDepth 100000 in
set_option maxHeartbeats 8000000 in
theorem ring_any (B R p : Nat) (w : World) (h : Rd B w R p) (hp : p ≤ 10000) :
    Calls Try.prog 77 #[.pointer (some ⟨R, 0, none⟩)] w (RingDr 23 B w R (p + 200)) := by
  obtain ⟨i0, ji0, jz0, jz1, jz2⟩ := info_parts intInfo
  have hlt := h.lt
  have hbs := h.base
  go_enter Try.func77, Try.ntmps77
  go_wp2_with fail
  refine (book_any B R p w h (by omega)).mono ?_
  rintro e w1 ⟨g, k, c, D, q, rfl, hk, hL, hd, hR, hq, hg⟩
  have HD := Lib.hid hd
  have HG := Lib.hid hg
  have HL := Lib.hid hL
  clear h hd hg hL
  go_wp2_with fail
  refine (list_any B R q k w1 hR (by omega) (by omega)).mono ?_
  rintro e w2 ⟨g2, n, c2, l, q2, rfl, hn, hDI, hR2, hq2, hg2⟩
  have HD2 := Lib.hid (HD.out.grown hlt hg2)
  have HG2 := Lib.hid (gb_trans HG.out hg2)
  have HI := Lib.hid hDI.rn
  have HR2 := Lib.hid hR2
  clear hR hR2 hg2 hDI HD HG
  obtain ⟨ok, xs, hv, hxl⟩ := ringV_be D k n (fun i => l.getD i 0)
  go_wp2_with fail
  refine (sRing _ k c D _ n c2 _ _ HD2.out.rn (by omega) (fun i hi => by have := HL.out i hi; omega) HI.out (by omega) ok xs hv).mono ?_
  rintro e w3 ⟨go, co, rfl, ⟨hg1, hg2', hcx, hcm⟩, ho, hb3⟩
  have HD3 := Lib.hid (HD2.out.call hb3)
  have HG3 := Lib.hid (gb_below HG2.out hb3)
  have HR3 := Lib.hid (HR2.out.call hb3)
  have HO3 := Lib.hid (ho.rn hg2')
  have hs3 := HG3.out.size
  have hs2 := HG2.out.size
  clear hv ho hb3 HD2 HG2 HR2 HI
  cases ok
  rotate_left
  · go_wp2_with fail
    refine (pick_any B R q2 4 _ HR3.out (by omega) (by omega) (by omega)).mono ?_
    rintro e w4 ⟨v, rfl, hva, hvb, hR4, hg4⟩
    have HD4 := Lib.hid (HD3.out.grown hlt hg4)
    have HG4 := Lib.hid (gb_trans HG3.out hg4)
    have HR4 := Lib.hid hR4
    have hs4 := HG4.out.size
    by_cases hv : 0 < v
    · have d1 : decide (0 < v) = true := decide_eq_true hv
      have HO4 : Hid (Rn w4 w4.heap.size (some ⟨go, 0, none⟩) xs.length (fun i => xs.getD i 0)) := Lib.hid (rn_pick HO3.out (by omega) hg4)
      clear hR4 hg4 hv HD3 HG3 HR3 HO3
      go_wp2
      go_ret2
      exact ⟨g, k, c, D, go, _, co, _, rfl, hk, HL.out, HD4.out, ⟨hxl, hcx, hcm⟩, HO4.out, HG4.out⟩
    · have d1 : decide (0 < v) = false := decide_eq_false hv
      obtain ⟨qz, hqz, HRz⟩ : ∃ qz, qz ≤ q2 + 1 ∧ Hid (Rd B w4 R qz) := ⟨_, Nat.le_refl _, HR4⟩
      have HDz := HD4
      have HGz := HG4
      clear hR4 hg4 hv HD3 HG3 HR3 HO3 HD4 HG4 HR4
      go_wp2_with fail
      refine (pick_any B R qz 8 _ HRz.out (by omega) (by omega) (by omega)).mono ?_
      rintro e w5 ⟨v5, rfl, hva5, hvb5, hR5, hg5⟩
      have HD5 := Lib.hid (HDz.out.grown hlt hg5)
      have HG5 := Lib.hid (gb_trans HGz.out hg5)
      have HR5 := Lib.hid hR5
      have hs5 := hg5.size
      clear hR5 hg5 HDz HGz HRz
      by_cases h0 : v5 = 0
      · subst h0
        go_wp2_with fail
        go_region_held3 (fun _ => True) (trivial)
          (first
            | (go_at_call 71; refine (pick_any B R (qz + 1) 3 _ (by first | exact HR5.out.drew | exact (HR5.out.drew.alloc (.cells #[.int .i64 1, .int .i64 7, .int .i64 0] 3))) (by omega) (by omega) (by omega)).mono ?_; rintro e w6 ⟨v6, rfl, hva6, hvb6, hR6, hg6⟩; obtain ⟨t6, rfl⟩ := Int.eq_ofNat_of_zero_le hva6; have z1 : IntKind.i64.wrap (1 + (t6 : Int)) = 1 + (t6 : Int) := IntWalk.i64_in _ (by omega); have z2 : (0 : Int) ≤ 1 + (t6 : Int) := (by omega); have z3 : 1 + (t6 : Int) ≤ 3 := (by omega)))
        all_goals
          have hcm3 : 3 ≤ maxLen := by unfold maxLen; omega
          have z4 : (1 + (t6 : Int)).toNat = 1 + t6 := by omega
        · have hgA : w5.grownBy w6 (some R) := gb_trans (gb_drew (gb_alloc (gb_refl w5 _) _)) hg6
          have HD6 := Lib.hid (HD5.out.grown hlt hgA)
          have HG6 := Lib.hid (gb_trans HG5.out hgA)
          have HN6 := Lib.hid (rn_pick (g := w5.heap.size) (r := R) (B := w5.heap.size + 1) (w := (w5.alloc (.cells #[.int .i64 1, .int .i64 7, .int .i64 0] 3)).drew) (rn_lit w5 3 t6 (by omega)) (by omega) hg6)
          clear hg6 hgA hR6 HD5 HG5
          go_wp2
          go_ret2
          exact ⟨g, k, c, D, w5.heap.size, 1 + t6, 3, _, rfl, hk, HL.out, HD6.out, ⟨by omega, by omega, hcm3⟩, HN6.out, HG6.out⟩
        · have HD6 := Lib.hid ((HD5.out.grown hlt (gb_drew (gb_refl w5 _))).grown hlt (gb_alloc hg6 (.cells #[.int .i64 1, .int .i64 7, .int .i64 0] 3)))
          have HG6 := Lib.hid (gb_trans HG5.out (gb_trans (gb_drew (gb_refl w5 _)) (gb_alloc hg6 (.cells #[.int .i64 1, .int .i64 7, .int .i64 0] 3))))
          have HN6 := Lib.hid (rn_lit w6 3 t6 (by omega))
          clear hg6 hR6 HD5 HG5
          rw [z4]
          go_wp2
          go_ret2
          exact ⟨g, k, c, D, w6.heap.size, 1 + t6, 3, _, rfl, hk, HL.out, HD6.out, ⟨by omega, by omega, hcm3⟩, (by simpa using HN6.out), HG6.out⟩
      have d5 : (v5 == 0) = false := beq_eq_false_iff_ne.2 h0
      clear h0
      go_wp2_with fail
      refine (code_any B R (qz + 1) _ HR5.out (by omega)).mono ?_
      rintro e w6 ⟨g7, n7, c7, l7, q7, rfl, hn7, hD7, hR7, hq7, hg7⟩
      have HW6 := Lib.hid (gb_alloc hg7 (.cells #[.int .i64 1, .int .i64 2] 3))
      have HI6 := Lib.hid (hD7.alloc (.cells #[.int .i64 1, .int .i64 2] 3))
      have hcp := hD7.cap
      have hll := hD7.2
      have hs7 := hg7.size
      have hgl7 := hD7.lt
      clear hD7 hR7 hg7 HR5
      go_wp2_with (at_builtin; refine wpList_append_lies _ rfl _ _ _ rfl w5.heap.size 3 i0 (.int .i64 0) 1 8 Try.underlying23 ji0 jz0 jz1 jz2 rfl (by omega) (.slice (some ⟨g7, 0, none⟩) n7 c7) n7 (nums l7) rfl HI6.out.1 ⟨w6.heap.size, 0, none⟩ 2 2 [.int .i64 1, .int .i64 2] rfl rfl ?d1 (by simp [Value.oneCell']) (by omega) ?d3 ?d4 ?d5 (w6.heap.size + 1) ?d6 ?_)
      try case d1 => exact World.news_of_block (cs := #[.int .i64 1, .int .i64 2]) (t := 3) (fr := (0, 0)) (heap_alloc_new w6 _)
      case d3 => unfold maxLen; omega
      case d4 => omega
      case d5 => first | omega | (simp; omega)
      try case d6 => simp
      intro g8 k8 w8 hown8 hg8 hat8 hlt8
      have hg8 : (w6.alloc (.cells #[.int .i64 1, .int .i64 2] 3)).grownBy w8 (some g7) := hg8
      have HW8 := gb_new HW6.out hg8 hgl7.1
      have HD8 := Lib.hid (HD5.out.grown hlt HW8)
      have HG8 := Lib.hid (gb_trans HG5.out HW8)
      have hk8 := owns_cap hown8
      have hnu : nums l7 ++ [.int .i64 1, .int .i64 2] = nums (l7 ++ [1, 2]) := by simp [nums]
      rw [hnu] at hown8
      have HI8 : Hid (DI w8 3 w5.heap.size g8 (n7 + 2) k8 (l7 ++ [1, 2])) := ⟨hown8, by rw [List.length_append, hll]; rfl⟩
      clear hown8 hg8 HW8 HW6 HI6 HD5 HG5 hll hnu
      go_wp2
      go_ret2
      exact ⟨g, k, c, D, g8, n7 + 2, k8, _, rfl, hk, HL.out, HD8.out, ⟨by omega, hk8.1, hk8.2.1⟩, HI8.out.rn, HG8.out⟩
  · obtain ⟨qz, hqz, HRz⟩ : ∃ qz, qz ≤ q2 + 1 ∧ Hid (Rd B w3 R qz) := ⟨_, Nat.le_succ _, HR3⟩
    have HDz := HD3
    have HGz := HG3
    have hs4 := hs3
    clear HO3 HD3 HG3 HR3
    go_wp2_with fail
    refine (pick_any B R qz 8 _ HRz.out (by omega) (by omega) (by omega)).mono ?_
    rintro e w5 ⟨v5, rfl, hva5, hvb5, hR5, hg5⟩
    have HD5 := Lib.hid (HDz.out.grown hlt hg5)
    have HG5 := Lib.hid (gb_trans HGz.out hg5)
    have HR5 := Lib.hid hR5
    have hs5 := hg5.size
    clear hR5 hg5 HDz HGz HRz
    by_cases h0 : v5 = 0
    · subst h0
      go_wp2_with fail
      go_region_held3 (fun _ => True) (trivial)
        (first
          | (go_at_call 71; refine (pick_any B R (qz + 1) 3 _ (by first | exact HR5.out.drew | exact (HR5.out.drew.alloc (.cells #[.int .i64 1, .int .i64 7, .int .i64 0] 3))) (by omega) (by omega) (by omega)).mono ?_; rintro e w6 ⟨v6, rfl, hva6, hvb6, hR6, hg6⟩; obtain ⟨t6, rfl⟩ := Int.eq_ofNat_of_zero_le hva6; have z1 : IntKind.i64.wrap (1 + (t6 : Int)) = 1 + (t6 : Int) := IntWalk.i64_in _ (by omega); have z2 : (0 : Int) ≤ 1 + (t6 : Int) := (by omega); have z3 : 1 + (t6 : Int) ≤ 3 := (by omega)))
      all_goals
        have hcm3 : 3 ≤ maxLen := by unfold maxLen; omega
        have z4 : (1 + (t6 : Int)).toNat = 1 + t6 := by omega
      · have hgA : w5.grownBy w6 (some R) := gb_trans (gb_drew (gb_alloc (gb_refl w5 _) _)) hg6
        have HD6 := Lib.hid (HD5.out.grown hlt hgA)
        have HG6 := Lib.hid (gb_trans HG5.out hgA)
        have HN6 := Lib.hid (rn_pick (g := w5.heap.size) (r := R) (B := w5.heap.size + 1) (w := (w5.alloc (.cells #[.int .i64 1, .int .i64 7, .int .i64 0] 3)).drew) (rn_lit w5 3 t6 (by omega)) (by omega) hg6)
        clear hg6 hgA hR6 HD5 HG5
        go_wp2
        go_ret2
        exact ⟨g, k, c, D, w5.heap.size, 1 + t6, 3, _, rfl, hk, HL.out, HD6.out, ⟨by omega, by omega, hcm3⟩, HN6.out, HG6.out⟩
      · have HD6 := Lib.hid ((HD5.out.grown hlt (gb_drew (gb_refl w5 _))).grown hlt (gb_alloc hg6 (.cells #[.int .i64 1, .int .i64 7, .int .i64 0] 3)))
        have HG6 := Lib.hid (gb_trans HG5.out (gb_trans (gb_drew (gb_refl w5 _)) (gb_alloc hg6 (.cells #[.int .i64 1, .int .i64 7, .int .i64 0] 3))))
        have HN6 := Lib.hid (rn_lit w6 3 t6 (by omega))
        clear hg6 hR6 HD5 HG5
        rw [z4]
        go_wp2
        go_ret2
        exact ⟨g, k, c, D, w6.heap.size, 1 + t6, 3, _, rfl, hk, HL.out, HD6.out, ⟨by omega, by omega, hcm3⟩, (by simpa using HN6.out), HG6.out⟩
    have d5 : (v5 == 0) = false := beq_eq_false_iff_ne.2 h0
    clear h0
    go_wp2_with fail
    refine (code_any B R (qz + 1) _ HR5.out (by omega)).mono ?_
    rintro e w6 ⟨g7, n7, c7, l7, q7, rfl, hn7, hD7, hR7, hq7, hg7⟩
    have HW6 := Lib.hid (gb_alloc hg7 (.cells #[.int .i64 1, .int .i64 2] 3))
    have HI6 := Lib.hid (hD7.alloc (.cells #[.int .i64 1, .int .i64 2] 3))
    have hcp := hD7.cap
    have hll := hD7.2
    have hs7 := hg7.size
    have hgl7 := hD7.lt
    clear hD7 hR7 hg7 HR5
    go_wp2_with (at_builtin; refine wpList_append_lies _ rfl _ _ _ rfl w5.heap.size 3 i0 (.int .i64 0) 1 8 Try.underlying23 ji0 jz0 jz1 jz2 rfl (by omega) (.slice (some ⟨g7, 0, none⟩) n7 c7) n7 (nums l7) rfl HI6.out.1 ⟨w6.heap.size, 0, none⟩ 2 2 [.int .i64 1, .int .i64 2] rfl rfl ?d1 (by simp [Value.oneCell']) (by omega) ?d3 ?d4 ?d5 (w6.heap.size + 1) ?d6 ?_)
    try case d1 => exact World.news_of_block (cs := #[.int .i64 1, .int .i64 2]) (t := 3) (fr := (0, 0)) (heap_alloc_new w6 _)
    case d3 => unfold maxLen; omega
    case d4 => omega
    case d5 => first | omega | (simp; omega)
    try case d6 => simp
    intro g8 k8 w8 hown8 hg8 hat8 hlt8
    have hg8 : (w6.alloc (.cells #[.int .i64 1, .int .i64 2] 3)).grownBy w8 (some g7) := hg8
    have HW8 := gb_new HW6.out hg8 hgl7.1
    have HD8 := Lib.hid (HD5.out.grown hlt HW8)
    have HG8 := Lib.hid (gb_trans HG5.out HW8)
    have hk8 := owns_cap hown8
    have hnu : nums l7 ++ [.int .i64 1, .int .i64 2] = nums (l7 ++ [1, 2]) := by simp [nums]
    rw [hnu] at hown8
    have HI8 : Hid (DI w8 3 w5.heap.size g8 (n7 + 2) k8 (l7 ++ [1, 2])) := ⟨hown8, by rw [List.length_append, hll]; rfl⟩
    clear hown8 hg8 HW8 HW6 HI6 HD5 HG5 hll hnu
    go_wp2
    go_ret2
    exact ⟨g, k, c, D, g8, n7 + 2, k8, _, rfl, hk, HL.out, HD8.out, ⟨by omega, hk8.1, hk8.2.1⟩, HI8.out.rn, HG8.out⟩
end Go.Proofs.Ytanfhgliilkhjaa
