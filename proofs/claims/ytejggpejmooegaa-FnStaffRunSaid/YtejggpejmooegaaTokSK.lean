/-
  The walk of FnStaffKinds.
-/
import Derived.Test.YtejggpejmooegaaTokSKP
import Derived.Test.YtejggpejmooegaaDraw3
import Derived.Test.YtejggpejmooegaaTokCL
import Derived.Test.YtejggpejmooegaaTok6
namespace Go.Proofs.Ytejggpejmooegaa
open Go.RowKit
set_option linter.unusedVariables false

theorem iStaffRv (a : Int) (s t : ByteArray) (v : Bool) (w : World) (hs : s.size ≤ 1048576) (ht : t.size ≤ 1048576) (h : (staffR a s.data.toList t.data.toList).isSome = v) :
    Calls Try.prog 32 #[.int .i64 a, .string s, .string t] w fun e w' => (∃ x, x = soN (staffR a s.data.toList t.data.toList) ∧ e = .returned (.tuple #[.int .i64 x, .bool v])) ∧ w = w' := by
  subst h; exact (iStaffR a s t w hs ht).mono fun _ _ h => ⟨⟨_, rfl, h.1⟩, h.2⟩
theorem cut_size (t : ByteArray) (m : Nat) (c : UInt8) : (t.extract 0 m ++ (⟨#[c]⟩ : ByteArray)).size ≤ t.size + 1 := by
  have h1 : (⟨#[c]⟩ : ByteArray).size = 1 := rfl
  rw [ByteArray.size_append, h1, ByteArray.size_extract]; omega
theorem ext_size (t : ByteArray) (m : Nat) : (t.extract 0 m).size ≤ t.size := by
  rw [ByteArray.size_extract]; omega
set_option maxHeartbeats 1000000 in
theorem w_FnStaffKinds (a0 : Option Addr) (len0 cap0 : Nat) (z0 : List Int) (w : World) (w0 : IsRow .u8 w a0 len0 cap0 z0) :
    Calls Try.prog 12 #[.slice a0 len0 cap0] w fun e w' => e = .returned (.bool true) ∧ Below w.heap.size w w' := by
  obtain ⟨hA, hc, hm⟩ := w0.bytes
  have hAH := Lib.hid hA
  clear w0 hA
  by_cases hs0 : 1048576 < len0
  · have hd0 : decide ((1048576 : Int) < (len0 : Int)) = true := by simp; omega
    go_enter Try.func12, Try.ntmps12
    go_wp2
    go_ret
    exact ⟨rfl, Below.refl _ _⟩
  have hd0 : decide ((1048576 : Int) < (len0 : Int)) = false := by simp; omega
  go_enter Try.func12, Try.ntmps12
  go_wp2_with fail
  refine (d_DrawStaffKinds a0 len0 cap0 w hAH.out (by omega) hc hm).mono ?_
  rintro e w1 ⟨a, s, rfl, hab, hsz, hb⟩
  clear hc hm hAH hs0 hd0
  go_wp2_with fail
  refine (iKinds a s _ (by omega)).mono ?_
  rintro e w2 ⟨rfl, hn⟩
  have hb2 : Below w.heap.size w w2 := bl hb (Nat.le_refl _) hn
  clear hn hb
  go_wp2_with fail
  refine (sKinds a s _ (by omega)).mono ?_
  rintro e w3 ⟨rfl, hn⟩
  have hb3 : Below w.heap.size w w3 := bl hb2 (Nat.le_refl _) hn
  clear hn hb2
  cases hk : kB a s.data.toList
  · clear hk
    go_wp2
    go_ret
    exact ⟨rfl, hb3⟩
  obtain ⟨t, e1, ht, ha, hv, h1, hcs⟩ := sk_facts hk
  have hT := Lib.hid ht
  have hC := Lib.hid hcs
  have hV := Lib.hid hv
  rw [e1]
  clear e1 ht hcs hv ha hk
  go_wp2_with fail
  refine (iStaffRv a s t true _ (by omega) (by rw [hT.out]; omega) h1).mono ?_
  rintro e w' ⟨⟨x, hx, rfl⟩, rfl⟩
  rcases hC.out with ⟨h0, e0⟩ | ⟨m, h0, c1, c2, c3, ⟨c4, c5⟩, c6⟩
  · have hxa : (x == a) = true := by rw [hx, e0]; simp
    have hd : ((s.size : Int) == 0) = true := beq_iff_eq.2 (by omega)
    clear hC hx e0 h0 h1
    go_wp2
    go_ret
    exact ⟨rfl, hb3⟩
  · have hd : ((s.size : Int) == 0) = false := beq_eq_false_iff_ne.2 (by omega)
    have hw1 : IntKind.i64.wrap ((s.size : Int) - 1) = (m : Int) := by rw [show (s.size : Int) - 1 = (m : Int) by omega]; exact IntWalk.i64_in _ (by omega)
    have C1 := Lib.hid c1
    have C2 := Lib.hid c2
    have C3 := Lib.hid c3
    have C5 := Lib.hid c5
    have C6 := Lib.hid c6
    have hmt : (m : Int) ≤ (t.size : Int) := by omega
    have hmt2 : (m : Int) < (t.size : Int) := by omega
    have hm0 : (0 : Int) ≤ (m : Int) := by omega
    have hH0 := Lib.hid h0
    have hts : t.size ≤ 60 := by rw [hT.out]; omega
    have hx60 : (t.extract 0 m).size ≤ 60 := Nat.le_trans (ext_size t m) hts
    have hx61 : min m t.size ≤ 60 := by omega
    clear hC c1 c2 c3 c5 c6 hx h0 h1
    go_wp2_with fail
    refine (iStaffRv a s _ true _ (by omega) (Nat.le_trans (cut_size t m _) (by rw [hT.out]; omega)) C1.out).mono ?_
    rintro e w' ⟨⟨x2, _, rfl⟩, rfl⟩
    go_wp2_with fail
    refine (iStaffRv a s _ true _ (by omega) (Nat.le_trans (cut_size t m _) (by rw [hT.out]; omega)) C2.out).mono ?_
    rintro e w' ⟨⟨x3, _, rfl⟩, rfl⟩
    go_wp2_with fail
    refine (cOf t 83 83 _ (by rw [hT.out]; omega) rfl).mono ?_
    rintro e w' ⟨rfl, rfl⟩
    rw [C3.out]
    go_wp2_with fail
    refine (iDirsCs s _ (by omega)).mono ?_
    rintro e w4 ⟨rfl, m1, rfl⟩
    rw [show chgS s = (chg s.data.toList : Int) from chgZ_yes hV.out]
    have hb8 : ((t[m].toNat : Int) == 84) = true := by rw [C5.out]; rfl
    go_wp2_with fail
    refine (iStaffM a s _ (by omega)).mono ?_
    rintro e w5 ⟨rfl, rfl⟩
    rw [C6.out]
    go_wp2
    go_ret
    exact ⟨rfl, below_dn hb3 _⟩
end Go.Proofs.Ytejggpejmooegaa
