/-
  The walk of FnChanges: changes are counted in parts.
-/
import Derived.Test.YtejggpejmooegaaTokC
namespace Go.Proofs.Ytejggpejmooegaa
open Go.RowKit
set_option linter.unusedVariables false

theorem iDirsCs (s : ByteArray) (w : World) (hs : s.size ≤ 1048576) :
    Calls Try.prog 16 #[.string s] w fun e w' => e = .returned (.int .i64 (chgS s)) ∧ ∃ m, w' = w.drewN m := iDirsCq s w hs
set_option maxHeartbeats 600000 in
theorem w_FnChanges (a0 : Option Addr) (len0 cap0 : Nat) (z0 : List Int) (a1 : Option Addr) (len1 cap1 : Nat) (z1 : List Int) (w : World) (w0 : IsRow .u8 w a0 len0 cap0 z0) (w1 : IsRow .u8 w a1 len1 cap1 z1) :
    Calls Try.prog 3 #[.slice a0 len0 cap0, .slice a1 len1 cap1] w fun e w' => e = .returned (.bool true) ∧ Below w.heap.size w w' := by
  obtain ⟨hA, hc, hm⟩ := w0.bytes
  have hAH := Lib.hid hA
  clear w0 w1 hA
  by_cases hs0 : 1048576 < len0
  · have hd0 : decide ((1048576 : Int) < (len0 : Int)) = true := by simp; omega
    go_enter Try.func3, Try.ntmps3
    go_wp2
    go_ret
    exact ⟨rfl, Below.refl _ _⟩
  have hd0 : decide ((1048576 : Int) < (len0 : Int)) = false := by simp; omega
  by_cases hs1 : 1048576 < len1
  · have hd1 : decide ((1048576 : Int) < (len1 : Int)) = true := by simp; omega
    go_enter Try.func3, Try.ntmps3
    go_wp2
    go_ret
    exact ⟨rfl, Below.refl _ _⟩
  have hd1 : decide ((1048576 : Int) < (len1 : Int)) = false := by simp; omega
  go_enter Try.func3, Try.ntmps3
  go_wp2_with fail
  refine (d_DrawDirectionsChanges a0 len0 cap0 w hAH.out (by omega) hc hm).mono ?_
  rintro e w1 ⟨s, rfl, hsz, hb⟩
  go_wp2_with fail
  refine (iDirsC s _ (by omega)).mono ?_
  rintro e w2 ⟨rfl, hn2⟩
  have hb2 : Below w.heap.size w w2 := bl hb (Nat.le_refl _) hn2
  clear hn2
  go_wp2_with fail
  refine (sDirsC s _ (by omega)).mono ?_
  rintro e w3 ⟨rfl, hn3⟩
  have hb3 : Below w.heap.size w w3 := bl hb2 (Nat.le_refl _) hn3
  clear hn3 hb2 hb
  cases hv : dirsV s.data.toList
  · have hz := chgZ_no hv
    rw [hz]
    clear hv hz
    go_wp2
    go_ret
    exact ⟨rfl, hb3⟩
  have hlen := dirs_len hv
  obtain ⟨k, hk, hk', hkle⟩ := mod_at len1 s.size
  obtain ⟨c, c1, c2, hcc, hc30, e1, e2, ⟨b1, b2, b3, b4⟩, hcases⟩ := cut_facts hv k hkle
  rw [hcc]
  have hw1 : IntKind.i64.wrap (chgS (s.extract 0 k) + chgS (s.extract k s.size)) = chgS (s.extract 0 k) + chgS (s.extract k s.size) := IntWalk.i64_in _ (by omega)
  have E1 := Lib.hid e1
  have E2 := Lib.hid e2
  have hC := Lib.hid hcases
  clear e1 e2 hv hcc hcases
  have hk1 : (k : Int) ≤ (s.size : Int) := by omega
  have hk0 : (0 : Int) ≤ (k : Int) := by omega
  have hdc : decide ((c : Int) < 0) = false := decide_eq_false (by omega)
  clear hs0 hs1 hd0 hd1 hc hm hAH
  go_wp2_with fail
  go_quiet ((go_at_call 16; exact Calls.quiet_of (iDirsCs _ _ (by simp; omega))))
  clear hw1 hk hk'
  rw [E1.out, E2.out]
  rcases hC.out with ⟨h0, hq⟩ | ⟨h0, h1, hq⟩ | ⟨j, h0, h1, he, hq⟩ | ⟨j, h0, h1, he, hq⟩
  · subst h0
    have hd : (c1 + c2 == (c : Int)) = true := beq_iff_eq.2 hq
    clear hq
    go_wp2
    go_quiet (fail)
    go_wp2
    go_ret
    exact ⟨rfl, below_dn hb3 _⟩
  · subst h1
    have hd : (c1 + c2 == (c : Int)) = true := beq_iff_eq.2 hq
    have hk2 : (0 : Int) < (s.size : Int) := by omega
    clear hq
    go_wp2
    go_quiet (fail)
    go_wp2
    go_ret
    exact ⟨rfl, below_dn hb3 _⟩
  · have hd : (c1 + c2 == (c : Int)) = true := beq_iff_eq.2 hq
    have hb : ∃ hk : k < s.size, ((s[j].toNat : Int) != (s[k].toNat : Int)) = false := by subst h0; exact ⟨h1, byte_eq he⟩
    obtain ⟨hks, hb⟩ := hb
    have hk2 : (0 : Int) < (k : Int) := by omega
    have hk6 : 0 < k := by omega
    have hk7 : decide (0 < k) = true := by simp; omega
    have hk8 : decide (k < s.size) = true := by simp; omega
    have hk3 : (k : Int) < (s.size : Int) := by omega
    have hk4 : (j : Int) < (s.size : Int) := by omega
    have hk5 : (0 : Int) ≤ (j : Int) := by omega
    have hw0 : IntKind.i64.wrap ((k : Int) - 1) = (j : Int) := by rw [show (k : Int) - 1 = (j : Int) by omega]; exact IntWalk.i64_in _ (by omega)
    have hW := Lib.hid hw0
    clear hq he h0 hw0
    go_wp2
    have hw := hW.out
    go_quiet (fail)
    clear hw
    go_wp2
    go_ret
    exact ⟨rfl, below_dn hb3 _⟩
  · have hd : (c1 + c2 + 1 == (c : Int)) = true := beq_iff_eq.2 hq
    have hb : ∃ hk : k < s.size, ((s[j].toNat : Int) != (s[k].toNat : Int)) = true := by subst h0; exact ⟨h1, byte_ne he⟩
    obtain ⟨hks, hb⟩ := hb
    have hk2 : (0 : Int) < (k : Int) := by omega
    have hk6 : 0 < k := by omega
    have hk7 : decide (0 < k) = true := by simp; omega
    have hk8 : decide (k < s.size) = true := by simp; omega
    have hk3 : (k : Int) < (s.size : Int) := by omega
    have hk4 : (j : Int) < (s.size : Int) := by omega
    have hk5 : (0 : Int) ≤ (j : Int) := by omega
    have hw0 : IntKind.i64.wrap ((k : Int) - 1) = (j : Int) := by rw [show (k : Int) - 1 = (j : Int) by omega]; exact IntWalk.i64_in _ (by omega)
    have hW := Lib.hid hw0
    clear hq he h0 hw0
    go_wp2
    have hw := hW.out
    go_quiet (fail)
    clear hw
    go_wp2
    go_ret
    exact ⟨rfl, below_dn hb3 _⟩
end Go.Proofs.Ytejggpejmooegaa
