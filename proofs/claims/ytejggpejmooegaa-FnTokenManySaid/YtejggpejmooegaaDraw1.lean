/-
  Contracts of the reader: l6Open, pick, of.
-/
import Derived.Test.YtejggpejmooegaaProg
import Derived.Test.YtejggpejmooegaaDrawP
import Derived.Lib.Hide
import Derived.BigQuiet
import Derived.Deep.QuietTactic
namespace Go.Proofs.Ytejggpejmooegaa
open Go.RowKit

theorem tm73 (p nb : Nat) : Int.tmod ((p : Int) * 7 + 3) (nb : Int) = (((p * 7 + 3) % nb : Nat) : Int) := by
  rw [Int.tmod_eq_emod_of_nonneg (by omega), Int.natCast_emod]
  have : ((p * 7 + 3 : Nat) : Int) = (p : Int) * 7 + 3 := by omega
  rw [this]
set_option maxHeartbeats 1000000 in
/-- pick: a number from 0 to n-1. -/
theorem pick_any (B R p : Nat) (n : Int) (w : World) (h : Rd B w R p) (hp : p ≤ 100000) (hn1 : 1 ≤ n) (hn2 : n ≤ 1000000) :
    Calls Try.prog 70 #[.pointer (some ⟨R, 0, none⟩), .int .i64 n] w (PickPost B w R p n) := by
  obtain ⟨A, nb, c, hx, hnb, hby, hB⟩ := h
  have hstep : ∀ q : Nat, Rd B (w.setCell ⟨R, 1, none⟩ (.int .i64 (q : Int))) R q := fun q => Rd.step hx hnb hby hB
  have hgb : ∀ u : Value, w.grownBy (w.setCell ⟨R, 1, none⟩ u) (some R) := fun u => gb_setCell (gb_refl w _) (.inl rfl) u
  have hS := Lib.hid hstep
  have hG := Lib.hid hgb
  clear hstep hgb
  have c0 := hx.cell (i := 0) (by simp)
  have c1 := hx.cell (i := 1) (by simp)
  have f1 := hx.frz 1
  simp only [List.getElem_cons_zero, List.getElem_cons_succ] at c0 c1
  have hdn : decide (n < 1) = false := decide_eq_false (by omega)
  by_cases h0 : nb = 0
  · have hd0 : ((nb : Int) == 0) = true := beq_iff_eq.2 (by omega)
    clear hby
    go_enter Try.func70, Try.ntmps70
    go_wp2
    go_ret
    exact ⟨0, rfl, by omega, by omega, by exact hS.out (p + 1), hG.out _⟩
  have hd0 : ((nb : Int) == 0) = false := beq_eq_false_iff_ne.2 (by omega)
  obtain ⟨b, off, rfl, hbB, hcell⟩ := hby (by omega)
  have hbR : b ≠ R := by omega
  by_cases hlt : p < nb
  · obtain ⟨v, hv, hc⟩ := hcell p hlt
    have hdl : decide ((p : Int) < (nb : Int)) = true := decide_eq_true (by omega)
    clear hcell h0 hby
    go_enter Try.func70, Try.ntmps70
    go_wp2
    go_ret
    refine ⟨_, rfl, ?_, ?_, hS.out (p + 1), hG.out _⟩
    · exact Int.emod_nonneg _ (by omega)
    · exact Int.emod_lt_of_pos _ (by omega)
  · obtain ⟨i1, hi1, e1⟩ : ∃ i1 : Nat, i1 < nb ∧ Int.tmod (p : Int) (nb : Int) = (i1 : Int) := ⟨p % nb, Nat.mod_lt _ (by omega), by rw [Int.tmod_eq_emod_of_nonneg (by omega)]; omega⟩
    obtain ⟨i2, hi2, e2⟩ : ∃ i2 : Nat, i2 < nb ∧ Int.tmod ((p : Int) * 7 + 3) (nb : Int) = (i2 : Int) := ⟨(p * 7 + 3) % nb, Nat.mod_lt _ (by omega), tm73 p nb⟩
    obtain ⟨q, hq, e3⟩ : ∃ q : Nat, q ≤ p ∧ Int.tdiv (p : Int) (nb : Int) = (q : Int) := ⟨p / nb, Nat.div_le_self _ _, by rw [Int.tdiv_eq_ediv_of_nonneg (by omega)]; omega⟩
    obtain ⟨v1, hv1, hc1⟩ := hcell i1 hi1
    obtain ⟨v2, hv2, hc2⟩ := hcell i2 hi2
    have hdl : decide ((p : Int) < (nb : Int)) = false := decide_eq_false (by omega)
    have hi1' : (i1 : Int) < (nb : Int) := by omega
    have hi2' : (i2 : Int) < (nb : Int) := by omega
    have hi10 : (0 : Int) ≤ (i1 : Int) := by omega
    have hi20 : (0 : Int) ≤ (i2 : Int) := by omega
    clear hcell h0 hby
    go_enter Try.func70, Try.ntmps70
    go_wp2
    have x1 : IntKind.i64.wrap (v1 : Int) = (v1 : Int) := IntWalk.i64_in _ (by omega)
    have x2 : IntKind.i64.wrap (v2 : Int) = (v2 : Int) := IntWalk.i64_in _ (by omega)
    have x3 : IntKind.i64.wrap ((v1 : Int) * 131) = (v1 : Int) * 131 := IntWalk.i64_in _ (by omega)
    have x4 : IntKind.i64.wrap ((p : Int) * 7) = (p : Int) * 7 := IntWalk.i64_in _ (by omega)
    have x5 : IntKind.i64.wrap ((p : Int) * 7 + 3) = (p : Int) * 7 + 3 := IntWalk.i64_in _ (by omega)
    have x6 : IntKind.i64.wrap ((v2 : Int) * 1117) = (v2 : Int) * 1117 := IntWalk.i64_in _ (by omega)
    have x7 : IntKind.i64.wrap ((v1 : Int) * 131 + (v2 : Int) * 1117) = (v1 : Int) * 131 + (v2 : Int) * 1117 := IntWalk.i64_in _ (by omega)
    have x8 : IntKind.i64.wrap ((p : Int) * 29) = (p : Int) * 29 := IntWalk.i64_in _ (by omega)
    have x9 : IntKind.i64.wrap ((v1 : Int) * 131 + (v2 : Int) * 1117 + (p : Int) * 29) = (v1 : Int) * 131 + (v2 : Int) * 1117 + (p : Int) * 29 := IntWalk.i64_in _ (by omega)
    have x10 : IntKind.i64.wrap ((q : Int) * 53) = (q : Int) * 53 := IntWalk.i64_in _ (by omega)
    have x11 : IntKind.i64.wrap ((v1 : Int) * 131 + (v2 : Int) * 1117 + (p : Int) * 29 + (q : Int) * 53) = (v1 : Int) * 131 + (v2 : Int) * 1117 + (p : Int) * 29 + (q : Int) * 53 := IntWalk.i64_in _ (by omega)
    go_quiet (fail)
    clear x1 x2 x3 x4 x5 x6 x7 x8 x9 x10 x11 e1 e2 e3
    go_wp2
    go_ret
    refine ⟨_, rfl, ?_, ?_, (hS.out (p + 1)).drewN _, gb_drewN (hG.out _) _⟩
    · exact (tmod_bd (xor_nonneg _ _ (by omega) (by omega) (by omega) (by omega)) hn1).1
    · exact (tmod_bd (xor_nonneg _ _ (by omega) (by omega) (by omega) (by omega)) hn1).2

/-- What of leaves: one of the texts. -/
def OfPost (B : Nat) (w : World) (R p : Nat) (l : List ByteArray) (e : Ending) (w' : World) : Prop := ∃ s : ByteArray, s ∈ l ∧ e = .returned (.string s) ∧ Rd B w' R (p + 1) ∧ w.grownBy w' (some R)
set_option maxHeartbeats 1000000 in
theorem of_any (B R p L : Nat) (l : List ByteArray) (c : Nat) (w : World) (h : Rd B w R p) (hp : p ≤ 100000) (hl1 : 1 ≤ l.length) (hl2 : l.length ≤ 1000) (hL : Bx w L (l.map Value.string)) (hne : L ≠ R) :
    Calls Try.prog 57 #[.pointer (some ⟨R, 0, none⟩), .slice (some ⟨L, 0, none⟩) l.length c] w (OfPost B w R p l) := by
  go_enter Try.func57, Try.ntmps57
  go_wp2_with fail
  refine (pick_any B R p l.length w h hp (by omega) (by omega)).mono ?_
  rintro e w1 ⟨v, rfl, hv0, hv1, hR, hg⟩
  obtain ⟨j, rfl⟩ := Int.eq_ofNat_of_zero_le hv0
  have hj : j < l.length := by omega
  have hL1 := hL.grown hg (by simpa using hne)
  have hc := hL1.cell (i := j) (by simpa using hj)
  simp only [List.getElem_map] at hc
  generalize hs : l[j] = s at hc
  have hm : s ∈ l := by rw [← hs]; exact List.getElem_mem hj
  clear hs hL hL1
  go_wp2
  go_ret
  exact ⟨s, hm, rfl, hR, hg⟩
set_option maxHeartbeats 400000 in
/-- l6Open: a reader in a new block. -/
theorem open_any (A : Option Addr) (len cap : Nat) (w : World) (hA : BytesAt w.heap.size w A len) (_hl : len ≤ 1048576) (hc : len ≤ cap) (hm : cap ≤ 9223372036854775807) :
    Calls Try.prog 53 #[.slice A len cap] w fun e w' => e = .returned (.pointer (some ⟨w.heap.size, 0, none⟩)) ∧ Rd w.heap.size w' w.heap.size 0 ∧ Below w.heap.size w w' := by
  by_cases hL : 2000 < len
  · have hd : decide ((2000 : Int) < (len : Int)) = true := decide_eq_true (by omega)
    have h1 : (2000 : Int) ≤ (cap : Int) := by omega
    go_enter Try.func53, Try.ntmps53
    go_wp2
    go_ret
    refine ⟨rfl, ⟨A, 2000, cap, Bx.new w _ 88, by omega, (hA.less (by omega)).keep (fun k hk => Go.Deep.blk_alloc_lt _ _ _ hk), Nat.le_refl _⟩, by go_grown⟩
  · have hd : decide ((2000 : Int) < (len : Int)) = false := decide_eq_false (by omega)
    go_enter Try.func53, Try.ntmps53
    go_wp2
    go_ret
    refine ⟨rfl, ⟨A, len, cap, Bx.new w _ 88, by omega, hA.keep (fun k hk => Go.Deep.blk_alloc_lt _ _ _ hk), Nat.le_refl _⟩, by go_grown⟩
end Go.Proofs.Ytejggpejmooegaa
