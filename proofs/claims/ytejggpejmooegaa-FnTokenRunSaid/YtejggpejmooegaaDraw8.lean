/-
  Contracts of the draws of events, and of DrawTokenRun.
-/
import Derived.Test.YtejggpejmooegaaDraw7
import Derived.Test.YtejggpejmooegaaTokT
namespace Go.Proofs.Ytejggpejmooegaa
open Go.RowKit
set_option linter.unusedVariables false

theorem evStep_yes (a b o x y z : Int) (s : ByteArray) (w : World) (e0 : stepS a b o s.data.toList = some (x, y, z)) :
    Calls Try.prog 20 #[.agg #[.int .i64 a, .int .i64 b, .int .i64 o], .string s] w fun e w' => e = .returned (.tuple #[.agg #[.int .i64 x, .int .i64 y, .int .i64 z], .bool true]) ∧ Below w.heap.size w w' :=
  (sTokStep a b o s w).mono fun _ _ ⟨he, hw⟩ => ⟨by rw [he, e0]; rfl, hw⟩
theorem evStep_no (a b o : Int) (s : ByteArray) (w : World) (e0 : stepS a b o s.data.toList = none) :
    Calls Try.prog 20 #[.agg #[.int .i64 a, .int .i64 b, .int .i64 o], .string s] w fun e w' => e = .returned (.tuple #[.agg #[.int .i64 0, .int .i64 0, .int .i64 0], .bool false]) ∧ Below w.heap.size w w' :=
  (sTokStep a b o s w).mono fun _ _ ⟨he, hw⟩ => ⟨by rw [he, e0]; rfl, hw⟩
set_option maxHeartbeats 2000000 in
theorem events_any (B R p : Nat) (a0 b0 o0 : Int) (w : World) (h : Rd B w R p) (hp : p ≤ 50000) :
    Calls Try.prog 69 #[.pointer (some ⟨R, 0, none⟩), .agg #[.int .i64 a0, .int .i64 b0, .int .i64 o0]] w (TextPost B w R (p + 40) 40) := by
  have hlt := h.lt
  have hbase := h.base
  go_enter Try.func69, Try.ntmps69
  go_wp2_with fail
  refine (pick_any B R p 12 _ (h.alloc _) (by omega) (by omega) (by omega)).mono ?_
  rintro e w1 ⟨n, rfl, hn0, hn1, hR, hg⟩
  have hX := (Bx.new w [.int .i64 a0, .int .i64 b0, .int .i64 o0] 27).grown hg (by simp; omega)
  have hg := gb_trans (gb_alloc (gb_refl w (some R)) _) hg
  clear h
  go_wp2
  go_loopw [5, 7] (fun u i wr => ∃ (s : ByteArray) (k q : Nat) (a b o : Int), (k : Int) ≤ n ∧ i = .int .i64 k ∧ u = .string s ∧ s.size ≤ k ∧ q ≤ p + 1 + k ∧ Bx wr w.heap.size [.int .i64 a, .int .i64 b, .int .i64 o] ∧ Rd B wr R q ∧ w.grownBy wr (some R)) (fun _ i _ => n.toNat - (intOf i).toNat)
  case atStart => exact ⟨_, 0, p + 1, a0, b0, o0, hn0, rfl, rfl, Nat.le_refl _, Nat.le_refl _, hX, hR, hg⟩
  case round =>
    clear hR hg hX
    obtain ⟨s, k, q, a, b, o, hk, rfl, rfl, hsz, hq, hX, hR, hg⟩ := hrel
    have hltr := hR.lt
    have hltx := hX.lt
    by_cases hlt2 : (k : Int) < n
    · go_wp2_with fail
      refine (of_any B R q wr.heap.size [⟨#[97]⟩, ⟨#[98]⟩, ⟨#[112]⟩, ⟨#[113]⟩, ⟨#[112]⟩] _ _ (hR.alloc _) (by omega) (by decide) (by decide) (Bx.new wr [.string ⟨#[97]⟩, .string ⟨#[98]⟩, .string ⟨#[112]⟩, .string ⟨#[113]⟩, .string ⟨#[112]⟩] _) (by omega)).mono ?_
      rintro e w2 ⟨s1, hm, rfl, hR2, hg2⟩
      have hs1 : s1.size ≤ 1 := all_size hm (by decide)
      have hX := (hX.alloc _).grown hg2 (by simp; omega)
      have hg := gb_trans (gb_alloc hg _) hg2
      clear hm hg2 hR
      obtain ⟨⟨c0, c1, c2⟩, _⟩ := hX.three
      have hltx := hX.lt
      cases hst : stepS a b o s1.data.toList with
      | none =>
        have hS := Lib.hid hst
        clear hst
        go_wp2_with fail
        refine (evStep_no a b o s1 _ hS.out).mono ?_
        rintro e w3 ⟨rfl, hn⟩
        have hX := hX.call hn
        have hR := hR2.call hn
        have hg := gb_below hg hn
        clear hn hR2
        go_wp2
        go_roundw
        case rel => exact ⟨s, k + 1, q + 1, a, b, o, by omega, by go_num, rfl, by omega, by omega, hX.alloc _, hR.alloc _, gb_alloc hg _⟩
        case measure => simp [intOf]; omega
      | some t =>
        obtain ⟨x, y, z⟩ := t
        have hS := Lib.hid hst
        clear hst
        go_wp2_with fail
        refine (evStep_yes a b o x y z s1 _ hS.out).mono ?_
        rintro e w3 ⟨rfl, hn⟩
        have hX := hX.call hn
        have hR := hR2.call hn
        have hg := gb_below hg hn
        clear hn hR2 c0 c1 c2
        have hltx := hX.lt
        obtain ⟨⟨c0, c1, c2⟩, f0, f1, f2⟩ := hX.three
        go_wp2
        go_roundw
        case rel => exact ⟨s ++ s1, k + 1, q + 1, x, y, z, by omega, by go_num, rfl, by rw [ByteArray.size_append]; omega, by omega, hX.set3.alloc _, (rd_set3 hR (by omega) (by omega) _ _ _).alloc _, gb_alloc (gb_set3 hg (Nat.le_refl _) _ _ _) _⟩
        case measure => simp [intOf]; omega
    · go_wp2_with fail
      refine (pick_any B R q 12 _ hR (by omega) (by omega) (by omega)).mono ?_
      rintro e w2 ⟨v, rfl, hv0, hv1, hR2, hg2⟩
      have hg3 := gb_trans hg hg2
      have hlt3 := hR2.lt
      have hk30 : s.size ≤ 20 := by omega
      by_cases hv : v = 0
      · have hd : (v == 0) = true := beq_iff_eq.2 hv
        clear hv
        go_wp2_with fail
        refine (of_any B R (q + 1) w2.heap.size [⟨#[120]⟩, ⟨#[112, 112]⟩, ⟨#[97, 98]⟩] _ _ (hR2.alloc _) (by omega) (by decide) (by decide) (Bx.new w2 [.string ⟨#[120]⟩, .string ⟨#[112, 112]⟩, .string ⟨#[97, 98]⟩] _) (by omega)).mono ?_
        rintro e w3 ⟨s1, hm, rfl, hR4, hg4⟩
        have hs1 : s1.size ≤ 2 := all_size hm (by decide)
        clear hm
        go_wp2
        go_ret
        exact ⟨s ++ s1, q + 1 + 1, rfl, by rw [ByteArray.size_append]; omega, by omega, hR4, gb_trans (gb_alloc hg3 _) hg4⟩
      · have hd : (v == 0) = false := beq_eq_false_iff_ne.2 hv
        clear hv
        go_wp2
        go_ret
        exact ⟨s, q + 1, rfl, by omega, by omega, hR2, hg3⟩
set_option maxHeartbeats 2000000 in
theorem d_DrawTokenRun (A : Option Addr) (len cap : Nat) (w : World) (hA : BytesAt w.heap.size w A len) (hl : len ≤ 1048576) (hc : len ≤ cap) (hm : cap ≤ 9223372036854775807) :
    Calls Try.prog 36 #[.slice A len cap] w (DrawTT w) := by
  obtain ⟨W, hW⟩ : ∃ W, W = w.alloc (.cells #[.int .i64 0, .int .i64 0, .int .i64 0] 27) := ⟨_, rfl⟩
  have hX : Bx W w.heap.size [.int .i64 0, .int .i64 0, .int .i64 0] := by rw [hW]; exact Bx.new w _ _
  have hA2 : BytesAt W.heap.size W A len := (hA.keep (w' := W) (fun k hk => by rw [hW]; exact Go.Deep.blk_alloc_lt _ _ _ hk)).up (by rw [hW]; simp)
  have hsz : W.heap.size = w.heap.size + 1 := by rw [hW]; simp
  have hbW : Below w.heap.size w W := by rw [hW]; go_grown
  go_enter Try.func36, Try.ntmps36
  go_wp2_with fail
  rw [← hW]
  refine (open_any A len cap W hA2 hl hc hm).mono ?_
  rintro e w1 ⟨rfl, hR, hb⟩
  have hX := hX.call hb
  have hz0 : w.heap.size + 1 ≤ w1.heap.size := by have := hb.size; omega
  have hWl : w.heap.size ≤ W.heap.size := by omega
  have hWr : w.heap.size ≠ W.heap.size := by omega
  have hWs : w.heap.size < W.heap.size := by omega
  have hb1 : Below w.heap.size w w1 := bl hbW (by omega) hb
  clear hb hbW hW hA2 hA hsz
  go_wp2_with fail
  refine (token_any _ _ 0 w1 hR (by omega)).mono ?_
  rintro e w2 ⟨a, b, o, q, rfl, hab, hq, hR, hg⟩
  have hX := hX.grown hg (by simpa using hWr)
  have hb2 : Below w.heap.size w w2 := gb_bl hb1 (by omega) (by omega) hg
  have hz2 := hg.size
  clear hg hb1
  have hltR := hR.lt
  have hT := Bx.new w2 [.int .i64 a, .int .i64 b, .int .i64 o] 27
  have hX := hX.alloc (.cells #[.int .i64 a, .int .i64 b, .int .i64 o] 27)
  have hR := hR.alloc (.cells #[.int .i64 a, .int .i64 b, .int .i64 o] 27)
  have hb2 := hb2.alloc (by omega) (.cells #[.int .i64 a, .int .i64 b, .int .i64 o] 27)
  obtain ⟨W3, hW3⟩ : ∃ W3, W3 = w2.alloc (.cells #[.int .i64 a, .int .i64 b, .int .i64 o] 27) := ⟨_, rfl⟩
  rw [← hW3] at hT hX hR hb2
  have kT := hT
  have kX := hX
  have hl3 : w2.heap.size < W3.heap.size := kT.lt
  have hl4 := kX.lt
  have hl5 := hR.lt
  obtain ⟨⟨c0, c1, c2⟩, _⟩ := kT.three
  obtain ⟨⟨d0, d1, d2⟩, f0, f1, f2⟩ := kX.three
  have hne1 : w2.heap.size ≠ w.heap.size := by omega
  have hne2 : w.heap.size ≠ w2.heap.size := by omega
  have KX := Lib.hid kX
  have KT := Lib.hid kT
  clear hX hT kX kT
  have hfin : ∀ (s : ByteArray) (w5 : World), s.size ≤ 40 → W3.grownBy w5 (some W.heap.size) → DrawTT w (.returned (.tuple #[.agg #[.int .i64 a, .int .i64 b, .int .i64 o], .string s])) (((w5.setCell ⟨w.heap.size, 0, none⟩ (.int .i64 a)).setCell ⟨w.heap.size, 1, none⟩ (.int .i64 b)).setCell ⟨w.heap.size, 2, none⟩ (.int .i64 o)) := fun s w5 hs hg =>
    ⟨a, b, o, s, rfl, by omega, hs, bl_set3 (gb_bl hb2 (by omega) (by omega) hg) (Nat.le_refl _) _ _ _⟩
  have FIN := Lib.hid hfin
  clear hfin hb2
  go_wp2_with fail
  rw [← hW3]
  clear hW3
  go_region_held3 (fun V => V.cell? ⟨w2.heap.size, 0, none⟩ = some (.int .i64 a) ∧ V.cell? ⟨w2.heap.size, 1, none⟩ = some (.int .i64 b) ∧ V.cell? ⟨w2.heap.size, 2, none⟩ = some (.int .i64 o)) (go_keep)
    (first | (go_at_call 69; refine (events_any _ _ q a b o _ hR.drew (by omega)).mono ?_; rintro e w5 ⟨s, q2, rfl, hs, hq2, hR5, hg⟩; have hg := gb_undrew hg; have hl6 := hg.size; have X5 := KX.out.grown hg (by simpa using hWr); have T5 := KT.out.grown hg (by simp; omega); obtain ⟨⟨g0, g1, g2⟩, _⟩ := T5.three; obtain ⟨⟨e0, e1, e2⟩, k0, k1, k2⟩ := X5.three))
  all_goals
    have HF := Lib.hid (FIN.out s w5 hs hg)
    clear hR5 hg X5 T5
    go_wp2
    refine bodyPost_ret (by simp [results, Try.results36, go_sem, *]; rfl) rfl ?_
    exact HF.out
end Go.Proofs.Ytejggpejmooegaa
