/-
  Contract of DrawTokenCarry.
-/
import Derived.Test.YtejggpejmooegaaDraw6
import Derived.Deep.RegionHeld3
namespace Go.Proofs.Ytejggpejmooegaa
open Go.RowKit
set_option linter.unusedVariables false

theorem gb_undrew {a b : World} {r : Option Nat} (h : a.drew.grownBy b r) : a.grownBy b r := ⟨h.os, h.tape, h.output, h.size, h.block⟩
set_option maxHeartbeats 2000000 in
theorem d_DrawTokenCarry (A : Option Addr) (len cap : Nat) (w : World) (hA : BytesAt w.heap.size w A len) (hl : len ≤ 1048576) (hc : len ≤ cap) (hm : cap ≤ 9223372036854775807) :
    Calls Try.prog 49 #[.slice A len cap] w (DrawTT w) := by
  obtain ⟨W, hW⟩ : ∃ W, W = w.alloc (.cells #[.int .i64 0, .int .i64 0, .int .i64 0] 27) := ⟨_, rfl⟩
  have hX : Bx W w.heap.size [.int .i64 0, .int .i64 0, .int .i64 0] := by rw [hW]; exact Bx.new w _ _
  have hA2 : BytesAt W.heap.size W A len := (hA.keep (w' := W) (fun k hk => by rw [hW]; exact Go.Deep.blk_alloc_lt _ _ _ hk)).up (by rw [hW]; simp)
  have hsz : W.heap.size = w.heap.size + 1 := by rw [hW]; simp
  have hbW : Below w.heap.size w W := by rw [hW]; go_grown
  go_enter Try.func49, Try.ntmps49
  go_wp2_with fail
  rw [← hW]
  refine (open_any A len cap W hA2 hl hc hm).mono ?_
  rintro e w1 ⟨rfl, hR, hb⟩
  have hX := hX.call hb
  have hz0 : w.heap.size + 1 ≤ w1.heap.size := by have := hb.size; omega
  have hWl : w.heap.size ≤ W.heap.size := by omega
  have hWr : w.heap.size ≠ W.heap.size := by omega
  have hWs : w.heap.size < W.heap.size := by omega
  have hb1 : Below w.heap.size w w1 := bl hbW (by omega) hb
  clear hb hbW hW hA2 hA hsz
  go_wp2_with fail
  refine (token_any _ _ 0 w1 hR (by omega)).mono ?_
  rintro e w2 ⟨a, b, o, q, rfl, hab, hq, hR, hg⟩
  have hX := hX.grown hg (by simpa using hWr)
  have hb2 : Below w.heap.size w w2 := gb_bl hb1 (by omega) (by omega) hg
  have hz2 := hg.size
  clear hg hb1
  have hltR := hR.lt
  have hT := Bx.new w2 [.int .i64 a, .int .i64 b, .int .i64 o] 27
  have hX := hX.alloc (.cells #[.int .i64 a, .int .i64 b, .int .i64 o] 27)
  have hR := hR.alloc (.cells #[.int .i64 a, .int .i64 b, .int .i64 o] 27)
  have hb2 := hb2.alloc (by omega) (.cells #[.int .i64 a, .int .i64 b, .int .i64 o] 27)
  go_wp2_with fail
  refine (pick_any _ _ q 4 _ hR (by omega) (by omega) (by omega)).mono ?_
  rintro e w3 ⟨v, rfl, hv0, hv1, hR, hg⟩
  have hX := hX.grown hg (by simpa using hWr)
  have hT := hT.grown hg (by simp; omega)
  have hb3 : Below w.heap.size w w3 := gb_bl hb2 (by simp; omega) (by omega) hg
  clear hg hb2
  have hlX := hX.lt
  have hlT := hT.lt
  have key : ∃ (W3 : World) (o' : Int), (-1 ≤ o' ∧ o' ≤ 15) ∧ (if 0 < v then W3 = w3.setCell ⟨w2.heap.size, 2, none⟩ (.int .i64 0) ∧ o' = 0 else W3 = w3 ∧ o' = o) ∧ Bx W3 w.heap.size [.int .i64 0, .int .i64 0, .int .i64 0] ∧ Bx W3 w2.heap.size [.int .i64 a, .int .i64 b, .int .i64 o'] ∧ Rd W.heap.size W3 W.heap.size (q + 1) ∧ Below w.heap.size w W3 := by
    by_cases hv : 0 < v
    · refine ⟨w3.setCell ⟨w2.heap.size, 2, none⟩ (.int .i64 0), 0, by omega, by rw [if_pos hv]; exact ⟨rfl, rfl⟩, hX.other (by simp; omega) _, ?_, hR.other (by simp; omega) (by simp; omega) _, hb3.setCell (by simp; omega) _⟩
      exact hT.set 2 (.int .i64 0)
    · exact ⟨w3, o, by omega, by rw [if_neg hv]; exact ⟨rfl, rfl⟩, hX, hT, hR, hb3⟩
  obtain ⟨W3, o', ho', hif, kX, kT, kR, kb⟩ := key
  have t0 := hT.cell (i := 2) (by simp)
  have t1 := hT.frz 2
  simp only [List.getElem_cons_zero, List.getElem_cons_succ] at t0
  have hl3 : w2.heap.size < W3.heap.size := kT.lt
  have hl4 := kX.lt
  have hl5 := kR.lt
  obtain ⟨⟨c0, c1, c2⟩, _⟩ := kT.three
  obtain ⟨⟨d0, d1, d2⟩, f0, f1, f2⟩ := kX.three
  have hne1 : w2.heap.size ≠ w.heap.size := by omega
  have hne2 : w.heap.size ≠ w2.heap.size := by omega
  have KX := Lib.hid kX
  have KT := Lib.hid kT
  clear hX hT hR kX kT hb3
  have hfin : ∀ (s : ByteArray) (w5 : World), s.size ≤ 40 → W3.grownBy w5 (some W.heap.size) → DrawTT w (.returned (.tuple #[.agg #[.int .i64 a, .int .i64 b, .int .i64 o'], .string s])) (((w5.setCell ⟨w.heap.size, 0, none⟩ (.int .i64 a)).setCell ⟨w.heap.size, 1, none⟩ (.int .i64 b)).setCell ⟨w.heap.size, 2, none⟩ (.int .i64 o')) := fun s w5 hs hg =>
    ⟨a, b, o', s, rfl, by omega, hs, bl_set3 (gb_bl kb (by omega) (by omega) hg) (Nat.le_refl _) _ _ _⟩
  have FIN := Lib.hid hfin
  clear hfin kb
  by_cases hv : 0 < v
  · have hd : decide (0 < v) = true := decide_eq_true hv
    rw [if_pos hv] at hif
    obtain ⟨hW3, rfl⟩ := hif
    clear hv
    go_wp2_with fail
    rw [← hW3]
    clear hW3 t0 t1
    go_region_held3 (fun V => V.cell? ⟨w2.heap.size, 0, none⟩ = some (.int .i64 a) ∧ V.cell? ⟨w2.heap.size, 1, none⟩ = some (.int .i64 b) ∧ V.cell? ⟨w2.heap.size, 2, none⟩ = some (.int .i64 0)) (go_keep)
      (first | (go_at_call 52; refine (dirs_any _ _ (q + 1) 8 _ kR.drew (by omega) (by omega) (by omega)).mono ?_; rintro e w5 ⟨s, q2, rfl, hs, hq2, hR5, hg⟩; have hg := gb_undrew hg; have hl6 := hg.size; have X5 := KX.out.grown hg (by simpa using hWr); have T5 := KT.out.grown hg (by simp; omega); obtain ⟨⟨g0, g1, g2⟩, _⟩ := T5.three; obtain ⟨⟨e0, e1, e2⟩, k0, k1, k2⟩ := X5.three))
    all_goals
      have HF := Lib.hid (FIN.out s w5 hs hg)
      clear hR5 hg X5 T5
      go_wp2
      refine bodyPost_ret (by simp [results, Try.results49, go_sem, *]; rfl) rfl ?_
      exact HF.out
  · have hd : decide (0 < v) = false := decide_eq_false hv
    rw [if_neg hv] at hif
    obtain ⟨rfl, rfl⟩ := hif
    clear hv
    go_wp2_with fail
    go_region_held3 (fun V => V.cell? ⟨w2.heap.size, 0, none⟩ = some (.int .i64 a) ∧ V.cell? ⟨w2.heap.size, 1, none⟩ = some (.int .i64 b) ∧ V.cell? ⟨w2.heap.size, 2, none⟩ = some (.int .i64 o')) (go_keep)
      (first | (go_at_call 52; refine (dirs_any _ _ (q + 1) 8 _ kR.drew (by omega) (by omega) (by omega)).mono ?_; rintro e w5 ⟨s, q2, rfl, hs, hq2, hR5, hg⟩; have hg := gb_undrew hg; have hl6 := hg.size; have X5 := KX.out.grown hg (by simpa using hWr); have T5 := KT.out.grown hg (by simp; omega); obtain ⟨⟨g0, g1, g2⟩, _⟩ := T5.three; obtain ⟨⟨e0, e1, e2⟩, k0, k1, k2⟩ := X5.three))
    all_goals
      have HF := Lib.hid (FIN.out s w5 hs hg)
      clear hR5 hg X5 T5
      go_wp2
      refine bodyPost_ret (by simp [results, Try.results49, go_sem, *]; rfl) rfl ?_
      exact HF.out
end Go.Proofs.Ytejggpejmooegaa
