/-
  Contracts of the draws of directions.
-/
import Derived.Test.YtejggpejmooegaaDraw1
namespace Go.Proofs.Ytejggpejmooegaa
open Go.RowKit

/-- What a draw of a text leaves: a text of at most m bytes. -/
def TextPost (B : Nat) (w : World) (R q0 m : Nat) (e : Ending) (w' : World) : Prop := ∃ (s : ByteArray) (q : Nat), e = .returned (.string s) ∧ s.size ≤ m ∧ q ≤ q0 ∧ Rd B w' R q ∧ w.grownBy w' (some R)
theorem two_size {a b s : ByteArray} {m : Nat} (h : s ∈ [a, b]) (ha : a.size ≤ m) (hb : b.size ≤ m) : s.size ≤ m := by
  simp only [List.mem_cons, List.not_mem_nil, or_false] at h
  rcases h with rfl | rfl <;> assumption
theorem all_size {l : List ByteArray} {s : ByteArray} {m : Nat} (h : s ∈ l) (ha : ∀ x ∈ l, x.size ≤ m) : s.size ≤ m := ha s h
/-- What a whole draw of a text leaves. -/
def DrawText (w : World) (e : Ending) (w' : World) : Prop := ∃ s : ByteArray, e = .returned (.string s) ∧ s.size ≤ 40 ∧ Below w.heap.size w w'
set_option maxHeartbeats 2000000 in
theorem dirs_any (B R p : Nat) (most : Int) (w : World) (h : Rd B w R p) (hp : p ≤ 50000) (hm1 : 0 ≤ most) (hm2 : most ≤ 20) :
    Calls Try.prog 52 #[.pointer (some ⟨R, 0, none⟩), .int .i64 most] w (TextPost B w R (p + 40) 40) := by
  have hlt := h.lt
  go_enter Try.func52, Try.ntmps52
  go_wp2_with fail
  refine (pick_any B R p (most + 1) w h (by omega) (by omega) (by omega)).mono ?_
  rintro e w1 ⟨n, rfl, hn0, hn1, hR, hg⟩
  go_wp2
  go_loopw [5, 7] (fun o i wr => ∃ (s : ByteArray) (k q : Nat), (k : Int) ≤ n ∧ i = .int .i64 k ∧ o = .string s ∧ s.size ≤ k ∧ q ≤ p + 1 + k ∧ Rd B wr R q ∧ w.grownBy wr (some R)) (fun _ i _ => n.toNat - (intOf i).toNat)
  case atStart => exact ⟨_, 0, p + 1, hn0, rfl, rfl, Nat.le_refl _, Nat.le_refl _, hR, hg⟩
  case round =>
    clear hR hg h
    obtain ⟨s, k, q, hk, rfl, rfl, hsz, hq, hR, hg⟩ := hrel
    have hltr := hR.lt
    by_cases hlt2 : (k : Int) < n
    · go_wp2_with fail
      refine (of_any B R q wr.heap.size [⟨#[85]⟩, ⟨#[68]⟩] _ _ (hR.alloc _) (by omega) (by decide) (by decide) (Bx.new wr [.string ⟨#[85]⟩, .string ⟨#[68]⟩] _) (by omega)).mono ?_
      rintro e w2 ⟨s1, hm, rfl, hR2, hg2⟩
      have hs1 : s1.size ≤ 1 := two_size hm (by decide) (by decide)
      clear hm
      go_wp2
      go_roundw
      case rel => exact ⟨s ++ s1, k + 1, q + 1, by omega, by go_num, rfl, by rw [ByteArray.size_append]; omega, by omega, hR2, gb_trans (gb_alloc hg _) hg2⟩
      case measure => simp [intOf]; omega
    · go_wp2_with fail
      refine (pick_any B R q 20 _ hR (by omega) (by omega) (by omega)).mono ?_
      rintro e w2 ⟨v, rfl, hv0, hv1, hR2, hg2⟩
      have hg3 := gb_trans hg hg2
      have hlt3 := hR2.lt
      have hk30 : s.size ≤ 20 := by omega
      by_cases hv : v = 0
      · have hd : (v == 0) = true := beq_iff_eq.2 hv
        clear hv
        go_wp2_with fail
        refine (of_any B R (q + 1) w2.heap.size [⟨#[120]⟩, ⟨#[117]⟩, ⟨#[32]⟩] _ _ (hR2.alloc _) (by omega) (by decide) (by decide) (Bx.new w2 [.string ⟨#[120]⟩, .string ⟨#[117]⟩, .string ⟨#[32]⟩] _) (by omega)).mono ?_
        rintro e w3 ⟨s1, hm, rfl, hR4, hg4⟩
        have hs1 : s1.size ≤ 1 := all_size hm (by decide)
        clear hm
        go_wp2
        go_ret
        exact ⟨s ++ s1, q + 1 + 1, rfl, by rw [ByteArray.size_append]; omega, by omega, hR4, gb_trans (gb_alloc hg3 _) hg4⟩
      · have hd : (v == 0) = false := beq_eq_false_iff_ne.2 hv
        clear hv
        go_wp2
        go_ret
        exact ⟨s, q + 1, rfl, by omega, by omega, hR2, hg3⟩
theorem d_DrawDirectionsChanges (A : Option Addr) (len cap : Nat) (w : World) (hA : BytesAt w.heap.size w A len) (hl : len ≤ 1048576) (hc : len ≤ cap) (hm : cap ≤ 9223372036854775807) :
    Calls Try.prog 15 #[.slice A len cap] w (DrawText w) := by
  go_enter Try.func15, Try.ntmps15
  go_wp2_with fail
  refine (open_any A len cap w hA hl hc hm).mono ?_
  rintro e w1 ⟨rfl, hR, hb⟩
  go_wp2_with fail
  refine (dirs_any _ _ 0 12 w1 hR (by omega) (by omega) (by omega)).mono ?_
  rintro e w2 ⟨s, q, rfl, hs, hq, hR2, hg2⟩
  have hbz := hb.size
  go_wp2
  go_ret
  exact ⟨s, rfl, hs, gb_bl hb hbz (Nat.le_refl _) hg2⟩
theorem d_DrawDirectionsTurn (A : Option Addr) (len cap : Nat) (w : World) (hA : BytesAt w.heap.size w A len) (hl : len ≤ 1048576) (hc : len ≤ cap) (hm : cap ≤ 9223372036854775807) :
    Calls Try.prog 23 #[.slice A len cap] w (DrawText w) := by
  go_enter Try.func23, Try.ntmps23
  go_wp2_with fail
  refine (open_any A len cap w hA hl hc hm).mono ?_
  rintro e w1 ⟨rfl, hR, hb⟩
  go_wp2_with fail
  refine (dirs_any _ _ 0 12 w1 hR (by omega) (by omega) (by omega)).mono ?_
  rintro e w2 ⟨s, q, rfl, hs, hq, hR2, hg2⟩
  have hbz := hb.size
  go_wp2
  go_ret
  exact ⟨s, rfl, hs, gb_bl hb hbz (Nat.le_refl _) hg2⟩
theorem d_DrawTokenNeeds (A : Option Addr) (len cap : Nat) (w : World) (hA : BytesAt w.heap.size w A len) (hl : len ≤ 1048576) (hc : len ≤ cap) (hm : cap ≤ 9223372036854775807) :
    Calls Try.prog 26 #[.slice A len cap] w (DrawText w) := by
  go_enter Try.func26, Try.ntmps26
  go_wp2_with fail
  refine (open_any A len cap w hA hl hc hm).mono ?_
  rintro e w1 ⟨rfl, hR, hb⟩
  go_wp2_with fail
  refine (dirs_any _ _ 0 12 w1 hR (by omega) (by omega) (by omega)).mono ?_
  rintro e w2 ⟨s, q, rfl, hs, hq, hR2, hg2⟩
  have hbz := hb.size
  go_wp2
  go_ret
  exact ⟨s, rfl, hs, gb_bl hb hbz (Nat.le_refl _) hg2⟩
theorem d_DrawTokenTrains (A : Option Addr) (len cap : Nat) (w : World) (hA : BytesAt w.heap.size w A len) (hl : len ≤ 1048576) (hc : len ≤ cap) (hm : cap ≤ 9223372036854775807) :
    Calls Try.prog 46 #[.slice A len cap] w (DrawText w) := by
  go_enter Try.func46, Try.ntmps46
  go_wp2_with fail
  refine (open_any A len cap w hA hl hc hm).mono ?_
  rintro e w1 ⟨rfl, hR, hb⟩
  go_wp2_with fail
  refine (dirs_any _ _ 0 17 w1 hR (by omega) (by omega) (by omega)).mono ?_
  rintro e w2 ⟨s, q, rfl, hs, hq, hR2, hg2⟩
  have hbz := hb.size
  go_wp2
  go_ret
  exact ⟨s, rfl, hs, gb_bl hb hbz (Nat.le_refl _) hg2⟩
end Go.Proofs.Ytejggpejmooegaa
