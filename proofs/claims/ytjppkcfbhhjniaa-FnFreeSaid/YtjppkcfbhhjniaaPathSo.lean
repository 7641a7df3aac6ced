/-
  Contract of the reference's PathsOrder.
-/
import Derived.Test.YtjppkcfbhhjniaaPathF
namespace Go.Proofs.Ytjppkcfbhhjniaa
open Go.RowKit
set_option linter.unusedVariables false

/-- A list of indices and a yes or a no. -/
def IdxRes (w : World) (l : List Nat) (ok : Bool) (e : Ending) (w' : World) : Prop :=
  ∃ g c : Nat, e = .returned (.tuple #[.slice (some ⟨g, 0, none⟩) l.length c, .bool ok]) ∧ (w.heap.size ≤ g ∧ g < w'.heap.size) ∧ Ow w' g (some ⟨g, 0, none⟩) l.length (fun i => ((l.getD i 0 : Nat) : Int)) ∧ Below w.heap.size w w'
set_option maxHeartbeats 1000000 in
theorem sOrd_yes (A : Option Addr) (m c : Nat) (D : Nat → PD) (n : Int) (k : Nat) (w : World) (h : PsRn w w.heap.size A m D) (hv : hasS n D m k = true) :
    Calls Try.prog 46 #[.int .i64 n, .slice A m c, .int .i64 (k : Int)] w (IdxRes w (ordN (fun i => (D i).f1 k) m) true) := by
  obtain ⟨hpv, h0, hkn⟩ := hasS_iff.1 hv
  have hm8 : m ≤ 8 := (pathsV_iff.1 hpv).2.2.1
  have hn1 : 1 ≤ n := (pathsV_iff.1 hpv).1
  have hn5 : n ≤ 5 := (pathsV_iff.1 hpv).2.1
  have hk0 : (0 : Int) ≤ (k : Int) ∧ (k : Int) ≤ n - 1 := by omega
  have PV := Lib.hid hpv
  have VV := Lib.hid hv
  clear hv hpv
  go_enter Try.func46, Try.ntmps46
  go_wp2_with fail
  refine (sPathsV_is true A m c D n _ PV.out h (by omega)).mono ?_
  rintro e w1 ⟨rfl, hb⟩
  go_wp2_with (go_at_call 51; refine (sIn_yes _ _ _ _ hk0).mono ?_; rintro e w' ⟨rfl, rfl⟩)
  refine (sOrder A m c D n k _ (h.topb hb) VV.out).mono ?_
  rintro e w2 ⟨g, cp, rfl, hown, hb2⟩
  have hlt := (hown.lt g rfl).2
  have hge := (owns_cap hown).2.2
  have hs1 := hb.size
  have hO := Ow.of_owns (f := fun i => (((ordN (fun i => (D i).f1 k) m).getD i 0 : Nat) : Int)) hown (fun i hi => by
    rw [nats_at (by rw [ord_len]; exact hi)]; simp [List.getD, ord_len, hi])
  have HO := Lib.hid hO
  have hb := bl hb (Nat.le_refl _) hb2
  clear hown hO hb2 h
  go_wp2
  go_ret2
  refine ⟨g, cp, by rw [ord_len]; rfl, ⟨by omega, hlt⟩, ?_, hb⟩
  rw [ord_len]; exact HO.out
theorem sOrd_no (A : Option Addr) (m c : Nat) (D : Nat → PD) (n k : Int) (w : World) (h : PsRn w w.heap.size A m D) (hm : m ≤ 1099511627776) (hv : hasS n D m k = false) :
    Calls Try.prog 46 #[.int .i64 n, .slice A m c, .int .i64 k] w (IdxRes w [] false) := by
  cases hpv : pathsV n D m
  · have V := Lib.hid hpv
    clear hv hpv
    go_enter Try.func46, Try.ntmps46
    go_wp2_with fail
    refine (sPathsV_is false A m c D n _ V.out h hm).mono ?_
    rintro e w1 ⟨rfl, hb⟩
    go_wp2
    go_ret2
    exact ⟨w1.heap.size, 0, rfl, ⟨hb.size, by simp⟩, Ow.nil _ _ _ _, hb.alloc hb.size _⟩
  · have hn1 : 1 ≤ n := (pathsV_iff.1 hpv).1
    have hn5 : n ≤ 5 := (pathsV_iff.1 hpv).2.1
    have hk : ¬ (0 ≤ k ∧ k ≤ n - 1) := fun x => by rw [hasS_yes hpv (by omega)] at hv; cases hv
    have V := Lib.hid hpv
    clear hv hpv
    go_enter Try.func46, Try.ntmps46
    go_wp2_with fail
    refine (sPathsV_is true A m c D n _ V.out h hm).mono ?_
    rintro e w1 ⟨rfl, hb⟩
    go_wp2_with (go_at_call 51; refine (sIn_no _ _ _ _ hk).mono ?_; rintro e w' ⟨rfl, rfl⟩)
    go_ret2
    exact ⟨w1.heap.size, 0, rfl, ⟨hb.size, by simp⟩, Ow.nil _ _ _ _, hb.alloc hb.size _⟩
end Go.Proofs.Ytjppkcfbhhjniaa
