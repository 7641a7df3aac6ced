/-
  Contracts of the whole draws of paths.
-/
import Derived.Test.YtjppkcfbhhjniaaDrawPs
namespace Go.Proofs.Ytjppkcfbhhjniaa
open Go.RowKit Go.Deep
set_option linter.unusedVariables false

/-- Paths that a draw has made, as they are read. -/
def ListDr (w : World) (n g m c : Nat) (D : Nat → PD) (w' : World) : Prop := (1 ≤ n ∧ n ≤ 4) ∧ (m ≤ 10 ∧ m ≤ c) ∧ lensB D m ∧ PsRn w' w'.heap.size (some ⟨g, 0, none⟩) m D ∧ Below w.heap.size w w'
theorem DPs.cap {w : World} {T : TypeId} {lo g k c : Nat} {D : Nat → PD} (h : DPs w T lo g k c D) : k ≤ c := by
  obtain ⟨xs, ho, _⟩ := h
  exact (owns_cap ho).1
/-- What a draw of a number of sections and paths leaves. -/
def ValDr (w : World) (e : Ending) (w' : World) : Prop := ∃ (n g m c : Nat) (D : Nat → PD), e = .returned (.tuple #[.int .i64 (n : Int), .slice (some ⟨g, 0, none⟩) m c]) ∧ ListDr w n g m c D w'
/-- .. and a section. -/
def OrdDr (w : World) (e : Ending) (w' : World) : Prop := ∃ (n g m c : Nat) (D : Nat → PD) (k : Int), e = .returned (.tuple #[.int .i64 (n : Int), .slice (some ⟨g, 0, none⟩) m c, .int .i64 k]) ∧ ListDr w n g m c D w'
theorem listDr_of {R : Nat} {w w1 w2 : World} {T : TypeId} {n g k c : Nat} {D : Nat → PD} (hb : Below w.heap.size w w1) (hn : 1 ≤ n ∧ n ≤ 4) (hk : k ≤ 10) (hD : lensB D k) {lo : Nat} (hd : DPs w2 T lo g k c D) (hR : w.heap.size ≤ R) (hg : w1.grownBy w2 (some R)) : ListDr w n g k c D w2 :=
  ⟨hn, ⟨hk, hd.cap⟩, hD, hd.rn, gb_bl hb hb.size hR hg⟩
set_option maxHeartbeats 1000000 in
theorem d_DrawPathsPasses (A : Option Addr) (len cap : Nat) (w : World) (hA : BytesAt w.heap.size w A len) (hl : len ≤ 1048576) (hc : len ≤ cap) (hm : cap ≤ 9223372036854775807) :
    Calls Try.prog 19 #[.slice A len cap] w (ValDr w) := by
  go_enter Try.func19, Try.ntmps19
  go_wp2_with fail
  refine (open_any A len cap w hA hl hc hm).mono ?_
  rintro e w1 ⟨rfl, hR, hb⟩
  go_wp2_with fail
  refine (paths_any _ _ 0 w1 hR (by omega)).mono ?_
  rintro e w2 ⟨n, g, k, c, D, q, rfl, hn, hk, hD, hd, hR2, hq, hg⟩
  have L := Lib.hid (listDr_of hb hn (show k ≤ 10 by omega) hD hd (Nat.le_refl _) hg)
  clear hd hR hR2 hg hb hD
  go_wp2
  go_ret2
  exact ⟨n, g, k, c, D, rfl, L.out⟩
set_option maxHeartbeats 1000000 in
theorem d_DrawPathsOrder (A : Option Addr) (len cap : Nat) (w : World) (hA : BytesAt w.heap.size w A len) (hl : len ≤ 1048576) (hc : len ≤ cap) (hm : cap ≤ 9223372036854775807) :
    Calls Try.prog 45 #[.slice A len cap] w (OrdDr w) := by
  go_enter Try.func45, Try.ntmps45
  go_wp2_with fail
  refine (open_any A len cap w hA hl hc hm).mono ?_
  rintro e w1 ⟨rfl, hR, hb⟩
  go_wp2_with fail
  refine (paths_any _ _ 0 w1 hR (by omega)).mono ?_
  rintro e w2 ⟨n, g, k, c, D, q, rfl, hn, hk, hD, hd, hR2, hq, hg⟩
  have hRl := hR.lt
  have HP := Lib.hid hd
  have HG := Lib.hid hg
  have HB := Lib.hid hb
  have HD := Lib.hid hD
  have hs := hg.size
  clear hd hg hR hD hb
  go_wp2_with fail
  refine (at_any _ _ q n _ hR2 (by omega) hn).mono ?_
  rintro e w3 ⟨kk, q3, rfl, hR3, hq3, hg3⟩
  have L := Lib.hid (listDr_of HB.out hn (show k ≤ 10 by omega) HD.out (HP.out.grown (by omega) hg3) (Nat.le_refl _) (gb_trans HG.out hg3))
  clear hR2 hR3 hg3 HP HG HB HD
  go_wp2
  go_ret3
  exact ⟨n, g, k, c, D, kk, rfl, L.out⟩
theorem d_DrawPathsGap (A : Option Addr) (len cap : Nat) (w : World) (hA : BytesAt w.heap.size w A len) (hl : len ≤ 1048576) (hc : len ≤ cap) (hm : cap ≤ 9223372036854775807) :
    Calls Try.prog 48 #[.slice A len cap] w (OrdDr w) := by
  go_enter Try.func48, Try.ntmps48
  go_wp2_with fail
  refine (d_DrawPathsOrder A len cap w hA hl hc hm).mono ?_
  rintro e w1 ⟨n, g, m, c, D, k, rfl, L⟩
  have L := Lib.hid L
  go_wp2
  go_ret3
  exact ⟨n, g, m, c, D, k, rfl, L.out⟩
theorem d_DrawPathsBusy (A : Option Addr) (len cap : Nat) (w : World) (hA : BytesAt w.heap.size w A len) (hl : len ≤ 1048576) (hc : len ≤ cap) (hm : cap ≤ 9223372036854775807) :
    Calls Try.prog 14 #[.slice A len cap] w (OrdDr w) := by
  go_enter Try.func14, Try.ntmps14
  go_wp2_with fail
  refine (d_DrawPathsOrder A len cap w hA hl hc hm).mono ?_
  rintro e w1 ⟨n, g, m, c, D, k, rfl, L⟩
  have L := Lib.hid L
  go_wp2
  go_ret3
  exact ⟨n, g, m, c, D, k, rfl, L.out⟩
end Go.Proofs.Ytjppkcfbhhjniaa
