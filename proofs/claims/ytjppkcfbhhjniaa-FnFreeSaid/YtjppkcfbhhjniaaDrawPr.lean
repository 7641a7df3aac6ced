/-
  Contracts of the draws of runs and of an index.
-/
import Derived.Test.YtjppkcfbhhjniaaDrawPb
namespace Go.Proofs.Ytjppkcfbhhjniaa
open Go.RowKit Go.Deep
set_option linter.unusedVariables false

/-- What a draw of runs leaves. -/
def RunsDr (B : Nat) (w : World) (R q0 : Nat) (e : Ending) (w' : World) : Prop :=
  ∃ (A : Option Addr) (n c : Nat) (f : Nat → Int) (q : Nat), e = .returned (.slice A n c) ∧ n ≤ 5 ∧ Rl w' w.heap.size A n f ∧ Rd B w' R q ∧ q ≤ q0 ∧ w.grownBy w' (some R)
set_option maxRecDepth 100000 in
set_option maxHeartbeats 4000000 in
theorem runs_any (B R p n : Nat) (w : World) (h : Rd B w R p) (hp : p ≤ 50000) (hn : 1 ≤ n ∧ n ≤ 4) :
    Calls Try.prog 69 #[.pointer (some ⟨R, 0, none⟩), .int .i64 (n : Int)] w (RunsDr B w R (p + 20)) := by
  obtain ⟨i0, ji0, jz0, jz1, jz2⟩ := info_parts intInfo
  have hlt := h.lt
  have hbs := h.base
  have hr0 := h.alloc (.cells #[] 3)
  have ho0 := World.ownsRow_made (base := w.heap.size) (size := 1) (e := 3) w #[] 0 (Nat.le_refl _) (by unfold maxLen; omega) (by simp)
  have hg0 : w.grownBy (w.alloc (.cells #[] 3)) (some R) := gb_alloc (gb_refl w _) _
  clear h
  go_enter Try.func69, Try.ntmps69
  go_wp2_with fail
  go_loopw [5, 6] (fun v i wr => ∃ (j : Nat) (l : List Int) (g k q : Nat), j ≤ n ∧ i = .int .i64 j ∧ v = .slice (some ⟨g, 0, none⟩) j k ∧ wr.ownsRow w.heap.size 3 1 (.slice (some ⟨g, 0, none⟩) j k) j (ints l) ∧ Rd B wr R q ∧ q ≤ p + j ∧ w.grownBy wr (some R)) (fun _ i _ => n - (intOf i).toNat)
  case atStart => exact ⟨0, [], _, 0, p, by omega, rfl, rfl, ho0, hr0, by omega, hg0⟩
  case round =>
    clear ho0 hr0 hg0
    obtain ⟨j, l, g, k, q, hj, rfl, rfl, ho, hR, hq, hg⟩ := hrel
    have hcp := owns_cap ho
    have hgl := (ho.lt g rfl).2
    have HO := Lib.hid ho
    clear ho
    by_cases hlt2 : j < n
    · go_wp2_with fail
      refine (pick_any B R q 12 _ hR (by omega) (by omega) (by omega)).mono ?_
      rintro e w2 ⟨v1, rfl, hv1a, hv1b, hR, hg2⟩
      have HO2 := Lib.hid (owns_grown HO.out hg2 (by simp [Value.ownBlock]; omega))
      have hg := gb_trans hg hg2
      have hsz := hg.size
      clear hg2 HO
      go_wp2_with (at_builtin; refine wpList_append_lies _ rfl _ _ _ rfl w.heap.size 3 i0 (.int .i64 0) 1 8 Try.underlying27 ji0 jz0 jz1 jz2 rfl (by omega) (.slice (some ⟨g, 0, none⟩) j k) j (ints l) rfl (HO2.out.alloc _) ⟨w2.heap.size, 0, none⟩ 1 1 [.int .i64 (1 + v1)] rfl rfl ?c1 ?c2 (by omega) ?c3 ?c4 ?c5 (w2.heap.size + 1) ?c6 ?_)
      case c1 => exact World.news_of_block (cs := #[.int .i64 (1 + v1)]) (t := 3) (fr := (0, 0)) (heap_alloc_new w2 _)
      case c2 => simp [Value.oneCell']
      case c3 => unfold maxLen; omega
      case c4 => omega
      case c5 => simp; omega
      case c6 => simp
      intro g3 k3 w4 hown3 hg3 hat3 hlt3
      have hg3 : (w2.alloc (.cells #[.int .i64 (1 + v1)] 3)).grownBy w4 (some g) := hg3
      have hR5 := (hR.alloc (.cells #[.int .i64 (1 + v1)] 3)).gr hg3 (by omega)
      have hg5 := gb_new (gb_alloc hg (.cells #[.int .i64 (1 + v1)] 3)) hg3 (by omega)
      have HO3 := Lib.hid (show w4.ownsRow w.heap.size 3 1 (.slice (some ⟨g3, 0, none⟩) (j + 1) k3) (j + 1) (ints (l ++ [1 + v1])) by rw [ints_snoc]; exact hown3)
      clear hown3 hg3 hR hg HO2
      go_wp2_with fail
      go_roundw
      case rel => exact ⟨j + 1, _, g3, k3, q + 1, by omega, by go_num, rfl, HO3.out, hR5, by omega, hg5⟩
      case measure => simp [intOf]; omega
    · obtain rfl : j = n := by omega
      obtain ⟨s, rfl⟩ : ∃ s, j = s + 1 := ⟨j - 1, by omega⟩
      have hd0 : decide ((0 : Int) < (s : Int) + 1) = true := decide_eq_true (by omega)
      go_wp2_with fail
      refine (pick_any B R q 30 _ hR (by omega) (by omega) (by omega)).mono ?_
      rintro e w2 ⟨v, rfl, hva, hvb, hR, hg2⟩
      have ho2 := owns_grown HO.out hg2 (by simp [Value.ownBlock]; omega)
      have hg := gb_trans hg hg2
      have hsz := hg.size
      have hl2 : l.length = s + 1 := by have := ho2.1; rw [ints_len] at this; omega
      have hO := Ow.of_owns (f := fun i => l.getD i 0) ho2 (fun i hi => ints_at (by omega))
      have gl := (ho2.lt g rfl).2
      obtain ⟨F, hF⟩ : ∃ F : Nat → Int, (fun i => l.getD i 0) = F := ⟨_, rfl⟩
      rw [hF] at hO
      have OO := Lib.hid hO
      have HR := Lib.hid hR
      have HG := Lib.hid hg
      obtain ⟨of1, e1, _, fz1, cc1⟩ := hO (by omega)
      have e2 := slice_off e1
      subst e2
      have y0 := cc1 0 (by omega)
      have z0 := fz1 0
      simp only [Nat.zero_add] at y0
      have ngR : g ≠ R := by omega
      clear hR hg hg2 ho2 hO cc1 fz1 e1 HO hF
      by_cases h0 : v = 0
      · subst h0
        have hRa := Lib.hid (HR.out.alloc (.cells #[.int .i64 0, .int .i64 101, .int .i64 100] 3))
        have hbx := Bx.new w2 [.int .i64 0, .int .i64 101, .int .i64 100] 3
        go_wp2_with fail
        refine (pick_any B R (q + 1) 3 _ hRa.out (by omega) (by omega) (by omega)).mono ?_
        rintro e w3 ⟨v3, rfl, a3, b3, hR3, hg3⟩
        obtain ⟨jn, rfl⟩ := Int.eq_ofNat_of_zero_le a3
        obtain ⟨xv, hxv⟩ := three_at (hbx.grown hg3 (by simp; omega)) jn (by omega)
        have O3 := (OO.out.alloc (.cells #[.int .i64 0, .int .i64 101, .int .i64 100] 3)).grown ngR hg3
        have OO3 := Lib.hid O3
        obtain ⟨of2, e2, _, fz2, cc2⟩ := O3 (by omega)
        have e3 := slice_off e2
        subst e3
        have y0 := cc2 0 (by omega)
        have z0 := fz2 0
        simp only [Nat.zero_add] at y0
        have hs3 := hg3.size
        simp only [World.size_alloc] at hs3
        have HR3 := Lib.hid hR3
        have HG3 := Lib.hid (gb_trans (gb_alloc HG.out _) hg3)
        have b4 : (0 : Int) ≤ (jn : Int) := by omega
        clear hbx hR3 hg3 O3 cc2 fz2 e2
        go_wp2
        go_ret
        exact ⟨_, _, _, _, q + 1 + 1, rfl, by omega, Rl.of_ow OO3.out.set0 (by omega), HR3.out.other (by simp; omega) (by simp; omega) _, by omega, gb_store HG3.out (by simp; omega) _⟩
      by_cases h1 : v = 1
      · subst h1
        have a1 : (1 : Int) ≤ (s : Int) + 1 := by omega
        have a2 : (1 : Int) ≤ (k : Int) := by omega
        have a3 : (s : Int) + 1 ≤ (k : Int) := by omega
        by_cases hk : k = 1
        · obtain rfl : s = 0 := by omega
          subst hk
          go_wp2
          go_ret
          exact ⟨_, 0, _, fun _ => 0, q + 1, rfl, by omega, fun h => absurd h (by omega), HR.out, by omega, HG.out⟩
        · have a4 : ((k : Int) == 1) = false := beq_eq_false_iff_ne.2 (by omega)
          go_wp2
          go_ret
          exact ⟨_, s, _, _, q + 1, rfl, by omega, Rl.tail (Rl.of_ow OO.out (by omega)), HR.out, by omega, HG.out⟩
      · have d0 : (v == 0) = false := beq_eq_false_iff_ne.2 h0
        have d1 : (v == 1) = false := beq_eq_false_iff_ne.2 h1
        clear h0 h1
        go_wp2
        go_ret
        exact ⟨_, _, _, _, q + 1, rfl, by omega, Rl.of_ow OO.out (by omega), HR.out, by omega, HG.out⟩
/-- What a draw of an index leaves. -/
def AtDr (B : Nat) (w : World) (R q0 : Nat) (e : Ending) (w' : World) : Prop := ∃ (k : Int) (q : Nat), e = .returned (.int .i64 k) ∧ Rd B w' R q ∧ q ≤ q0 ∧ w.grownBy w' (some R)
set_option maxHeartbeats 2000000 in
theorem at_any (B R p n : Nat) (w : World) (h : Rd B w R p) (hp : p ≤ 50000) (hn : 1 ≤ n ∧ n ≤ 4) :
    Calls Try.prog 66 #[.pointer (some ⟨R, 0, none⟩), .int .i64 (n : Int)] w (AtDr B w R (p + 2)) := by
  have hlt := h.lt
  have hbs := h.base
  have dn : ((n : Int) == 0) = false := beq_eq_false_iff_ne.2 (by omega)
  go_enter Try.func66, Try.ntmps66
  go_wp2_with fail
  refine (pick_any B R p 20 w h (by omega) (by omega) (by omega)).mono ?_
  rintro e w1 ⟨v, rfl, hva, hvb, hR, hg⟩
  have hs := hg.size
  have HR := Lib.hid hR
  have HG := Lib.hid hg
  clear hR hg h
  by_cases h0 : v = 0
  · subst h0
    have hbx := Bx.new w1 [.int .i64 (-1), .int .i64 (n : Int)] 3
    have hRa := Lib.hid (HR.out.alloc (.cells #[.int .i64 (-1), .int .i64 (n : Int)] 3))
    go_wp2_with fail
    refine (pick_any B R (p + 1) 2 _ hRa.out (by omega) (by omega) (by omega)).mono ?_
    rintro e w3 ⟨v3, rfl, a3, b3, hR3, hg3⟩
    obtain ⟨jn, rfl⟩ := Int.eq_ofNat_of_zero_le a3
    obtain ⟨xv, hxv⟩ := two_at (hbx.grown hg3 (by simp; omega)) jn (by omega)
    have HR3 := Lib.hid hR3
    have HG3 := Lib.hid (gb_trans (gb_alloc HG.out _) hg3)
    have b4 : (0 : Int) ≤ (jn : Int) := by omega
    clear hbx hR3 hg3
    go_wp2
    go_ret
    exact ⟨_, p + 1 + 1, rfl, HR3.out, by omega, HG3.out⟩
  · have d0 : (v == 0) = false := beq_eq_false_iff_ne.2 h0
    clear h0
    go_wp2_with fail
    refine (pick_any B R (p + 1) n _ HR.out (by omega) (by omega) (by omega)).mono ?_
    rintro e w3 ⟨v3, rfl, a3, b3, hR3, hg3⟩
    have HR3 := Lib.hid hR3
    have HG3 := Lib.hid (gb_trans HG.out hg3)
    clear hR3 hg3
    go_wp2
    go_ret
    exact ⟨_, p + 1 + 1, rfl, HR3.out, by omega, HG3.out⟩
end Go.Proofs.Ytjppkcfbhhjniaa
