/-
  Contracts of the whole draws of books.
-/
import Derived.Test.YtanfhgliilkhjaaBkDB
namespace Go.Proofs.Ytanfhgliilkhjaa
open Go.RowKit Go.Deep
set_option linter.unusedVariables false

/-- A book that a draw has made, as it is read. -/
def BookIn (w : World) (g m c : Nat) (D : Nat → LD) (w' : World) : Prop := (m ≤ 7 ∧ m ≤ c ∧ c ≤ maxLen) ∧ lens6 D m ∧ SsRn w' w'.heap.size (some ⟨g, 0, none⟩) m D ∧ Below w.heap.size w w' ∧ ∀ i, i < m → ∀ a n c', w'.cell? ⟨g, i, none⟩ = some (.slice a n c') → n ≤ c'
theorem DLs.cap2 {w : World} {T lo g k c : Nat} {D : Nat → LD} (h : DLs w T lo g k c D) : k ≤ c ∧ c ≤ maxLen := by
  obtain ⟨xs, ho, _⟩ := h
  exact ⟨(owns_cap ho).1, (owns_cap ho).2.1⟩
/-- What a draw of a book and numbers leaves. -/
def TwoDr (w : World) (e : Ending) (w' : World) : Prop := ∃ (g m c : Nat) (D : Nat → LD) (g2 n c2 : Nat) (f : Nat → Int), e = .returned (.tuple #[.slice (some ⟨g, 0, none⟩) m c, .slice (some ⟨g2, 0, none⟩) n c2]) ∧ BookIn w g m c D w' ∧ (n ≤ 20 ∧ n ≤ c2 ∧ c2 ≤ maxLen) ∧ Rn w' w'.heap.size (some ⟨g2, 0, none⟩) n f
set_option maxHeartbeats 1000000 in
theorem d_DrawBookRing (A : Option Addr) (len cap : Nat) (w : World) (hA : BytesAt w.heap.size w A len) (hl : len ≤ 1048576) (hc : len ≤ cap) (hm : cap ≤ 9223372036854775807) :
    Calls Try.prog 27 #[.slice A len cap] w (TwoDr w) := by
  go_enter Try.func27, Try.ntmps27
  go_wp2_with fail
  refine (open_any A len cap w hA hl hc hm).mono ?_
  rintro e w1 ⟨rfl, hR, hb⟩
  have hRl := hR.lt
  go_wp2_with fail
  refine (book_any _ _ 0 w1 hR (by omega)).mono ?_
  rintro e w2 ⟨g, k, c, D, q, rfl, hk, hL, hd, hR2, hq, hg⟩
  have hs := hg.size
  have HP := Lib.hid hd
  have HG := Lib.hid hg
  have HB := Lib.hid hb
  have HL := Lib.hid hL
  clear hd hg hR hb hL
  go_wp2_with fail
  refine (list_any _ _ q k w2 hR2 (by omega) (by omega)).mono ?_
  rintro e w3 ⟨g2, n, c2, l, q3, rfl, hn, hD2, hR3, hq3, hg3⟩
  have HD3 := Lib.hid (HP.out.grown (by omega) hg3)
  have HB3 : Hid (Below w.heap.size w w3) := gb_bl HB.out HB.out.size (Nat.le_refl _) (gb_trans HG.out hg3)
  have HI := Lib.hid hD2
  clear hR2 hR3 hg3 hD2 HP HG HB
  go_wp2
  go_ret2
  exact ⟨g, k, c, D, g2, n, c2, _, rfl, ⟨⟨by omega, HD3.out.cap2⟩, HL.out, HD3.out.rn, HB3.out, fun i hi a n c' hc => HD3.out.caps hi hc⟩, ⟨by omega, HI.out.cap⟩, HI.out.rn⟩
set_option maxHeartbeats 1000000 in
theorem d_DrawBookClear (A : Option Addr) (len cap : Nat) (w : World) (hA : BytesAt w.heap.size w A len) (hl : len ≤ 1048576) (hc : len ≤ cap) (hm : cap ≤ 9223372036854775807) :
    Calls Try.prog 35 #[.slice A len cap] w fun e w' => ∃ (g m c : Nat) (D : Nat → LD), e = .returned (.slice (some ⟨g, 0, none⟩) m c) ∧ BookIn w g m c D w' := by
  go_enter Try.func35, Try.ntmps35
  go_wp2_with fail
  refine (open_any A len cap w hA hl hc hm).mono ?_
  rintro e w1 ⟨rfl, hR, hb⟩
  have hRl := hR.lt
  go_wp2_with fail
  refine (book_any _ _ 0 w1 hR (by omega)).mono ?_
  rintro e w2 ⟨g, k, c, D, q, rfl, hk, hL, hd, hR2, hq, hg⟩
  have hs := hg.size
  have hcp := hd.cap2
  have HP := Lib.hid hd
  have HG := Lib.hid hg
  have HB := Lib.hid hb
  have HL := Lib.hid hL
  clear hd hg hR hb hL
  by_cases h2 : 2 < k
  · have d1 : decide ((2 : Int) < (k : Int)) = true := decide_eq_true (by omega)
    have d2 : decide (2 < k) = true := decide_eq_true h2
    go_wp2_with fail
    refine (pick_any _ _ q 2 w2 hR2 (by omega) (by omega) (by omega)).mono ?_
    rintro e w3 ⟨v, rfl, hva, hvb, hR3, hg3⟩
    have HD3 := Lib.hid (HP.out.grown (by omega) hg3)
    have HB3 : Hid (Below w.heap.size w w3) := gb_bl HB.out HB.out.size (Nat.le_refl _) (gb_trans HG.out hg3)
    clear hR2 hR3 hg3 HP HG HB
    by_cases hv : v = 0
    · subst hv
      have c0 : (2 : Int) ≤ (c : Int) := by omega
      go_wp2
      go_ret
      exact ⟨g, 2, c, D, rfl, ⟨by omega, by omega, hcp.2⟩, fun t ht => HL.out t (by omega), HD3.out.rn.less (by omega), HB3.out, fun i hi a n c' hc => HD3.out.caps (show i < k by omega) hc⟩
    · have d3 : (v == 0) = false := beq_eq_false_iff_ne.2 hv
      clear hv
      go_wp2
      go_ret
      exact ⟨g, k, c, D, rfl, ⟨by omega, hcp⟩, HL.out, HD3.out.rn, HB3.out, fun i hi a n c' hc => HD3.out.caps hi hc⟩
  · have d1 : decide ((2 : Int) < (k : Int)) = false := decide_eq_false (by omega)
    have d2 : decide (2 < k) = false := decide_eq_false h2
    have HB3 : Hid (Below w.heap.size w w2) := gb_bl HB.out HB.out.size (Nat.le_refl _) HG.out
    clear hR2 HG HB
    go_wp2
    go_ret
    exact ⟨g, k, c, D, rfl, ⟨by omega, hcp⟩, HL.out, HP.out.rn, HB3.out, fun i hi a n c' hc => HP.out.caps hi hc⟩
end Go.Proofs.Ytanfhgliilkhjaa
