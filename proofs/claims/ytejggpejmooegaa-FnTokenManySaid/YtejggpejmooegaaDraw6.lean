/-
  Contract of DrawTokenStep.
-/
import Derived.Test.YtejggpejmooegaaDraw5
namespace Go.Proofs.Ytejggpejmooegaa
open Go.RowKit
set_option linter.unusedVariables false

/-- What a draw of a token and a text leaves. -/
def DrawTT (w : World) (e : Ending) (w' : World) : Prop := ∃ (a b o : Int) (s : ByteArray), e = .returned (.tuple #[.agg #[.int .i64 a, .int .i64 b, .int .i64 o], .string s]) ∧ (-1 ≤ a ∧ a ≤ 15 ∧ -1 ≤ b ∧ b ≤ 15 ∧ -1 ≤ o ∧ o ≤ 15) ∧ s.size ≤ 40 ∧ Below w.heap.size w w'
theorem BytesAt.up {B : Nat} {w : World} {A : Option Addr} {n : Nat} (h : BytesAt B w A n) {C : Nat} (hC : B ≤ C) : BytesAt C w A n := fun hn => by
  obtain ⟨b, off, e, hb, hc⟩ := h hn
  exact ⟨b, off, e, by omega, hc⟩
theorem bl_set3 {B C : Nat} {w w' : World} (h : Below B w w') (hC : B ≤ C) (x y z : Value) : Below B w (((w'.setCell ⟨C, 0, none⟩ x).setCell ⟨C, 1, none⟩ y).setCell ⟨C, 2, none⟩ z) := by
  go_grown
set_option maxHeartbeats 1000000 in
theorem d_DrawTokenStep (A : Option Addr) (len cap : Nat) (w : World) (hA : BytesAt w.heap.size w A len) (hl : len ≤ 1048576) (hc : len ≤ cap) (hm : cap ≤ 9223372036854775807) :
    Calls Try.prog 18 #[.slice A len cap] w (DrawTT w) := by
  obtain ⟨W, hW⟩ : ∃ W, W = w.alloc (.cells #[.int .i64 0, .int .i64 0, .int .i64 0] 27) := ⟨_, rfl⟩
  have hX : Bx W w.heap.size [.int .i64 0, .int .i64 0, .int .i64 0] := by rw [hW]; exact Bx.new w _ _
  have hA2 : BytesAt W.heap.size W A len := (hA.keep (w' := W) (fun k hk => by rw [hW]; exact Go.Deep.blk_alloc_lt _ _ _ hk)).up (by rw [hW]; simp)
  have hsz : W.heap.size = w.heap.size + 1 := by rw [hW]; simp
  have hbW : Below w.heap.size w W := by rw [hW]; go_grown
  go_enter Try.func18, Try.ntmps18
  go_wp2_with fail
  rw [← hW]
  refine (open_any A len cap W hA2 hl hc hm).mono ?_
  rintro e w1 ⟨rfl, hR, hb⟩
  have hX := hX.call hb
  have hz0 : w.heap.size + 1 ≤ w1.heap.size := by have := hb.size; omega
  have hWl : w.heap.size ≤ W.heap.size := by omega
  have hWr : w.heap.size ≠ W.heap.size := by omega
  have hb1 : Below w.heap.size w w1 := bl hbW (by omega) hb
  clear hb hbW hW hA2 hA hsz
  go_wp2_with fail
  refine (token_any _ _ 0 w1 hR (by omega)).mono ?_
  rintro e w2 ⟨a, b, o, q, rfl, hab, hq, hR, hg⟩
  have hX := hX.grown hg (by simpa using hWr)
  have hb2 : Below w.heap.size w w2 := gb_bl hb1 (by omega) (by omega) hg
  have hz2 := hg.size
  clear hg hb1
  have hltR := hR.lt
  go_wp2_with fail
  refine (of_any _ _ q w2.heap.size [⟨#[97]⟩, ⟨#[98]⟩, ⟨#[112]⟩, ⟨#[113]⟩, ⟨#[97]⟩, ⟨#[112]⟩, ⟨#[]⟩, ⟨#[120]⟩, ⟨#[97, 112]⟩] _ _ (hR.alloc _) (by omega) (by decide) (by decide) (Bx.new w2 [.string ⟨#[97]⟩, .string ⟨#[98]⟩, .string ⟨#[112]⟩, .string ⟨#[113]⟩, .string ⟨#[97]⟩, .string ⟨#[112]⟩, .string ⟨#[]⟩, .string ⟨#[120]⟩, .string ⟨#[97, 112]⟩] _) (by omega)).mono ?_
  rintro e w3 ⟨s, hm1, rfl, hR4, hg4⟩
  have hs1 : s.size ≤ 2 := all_size hm1 (by decide)
  clear hm1
  have hX := (hX.alloc _).grown hg4 (by simpa using hWr)
  have hb3 : Below w.heap.size w w3 := gb_bl (w := w2.alloc _) (by go_grown) (by simp; omega) (by omega) hg4
  obtain ⟨⟨c0, c1, c2⟩, f0, f1, f2⟩ := hX.three
  have g0 : ∀ u, (w3.setCell ⟨w.heap.size, 0, none⟩ u).cell? ⟨w.heap.size, 0, none⟩ = some u := fun u => (hX.set 0 u).cell (i := 0) (by simp)
  have g1 : ∀ u t, ((w3.setCell ⟨w.heap.size, 0, none⟩ u).setCell ⟨w.heap.size, 1, none⟩ t).cell? ⟨w.heap.size, 1, none⟩ = some t := fun u t => ((hX.set 0 u).set 1 t).cell (i := 1) (by simp)
  have g2 : ∀ u t r, (((w3.setCell ⟨w.heap.size, 0, none⟩ u).setCell ⟨w.heap.size, 1, none⟩ t).setCell ⟨w.heap.size, 2, none⟩ r).cell? ⟨w.heap.size, 2, none⟩ = some r := fun u t r => (((hX.set 0 u).set 1 t).set 2 r).cell (i := 2) (by simp)
  go_wp2
  refine bodyPost_ret (by simp [results, Try.results18, go_sem, *]; rfl) rfl ?_
  exact ⟨a, b, o, s, rfl, by omega, by omega, bl_set3 hb3 (Nat.le_refl _) _ _ _⟩
end Go.Proofs.Ytejggpejmooegaa
