/-
  The walk of FnDirections.
-/
import Derived.Test.YtejggpejmooegaaTokTuP
import Derived.Test.YtejggpejmooegaaTokC
import Derived.Test.YtejggpejmooegaaTokCL
import Derived.Test.YtejggpejmooegaaTok4
namespace Go.Proofs.Ytejggpejmooegaa
open Go.RowKit
set_option linter.unusedVariables false

theorem dd_facts {s : ByteArray} (hv : dirsV s.data.toList = true) : ∃ t, turnS s = t ∧ t.size = s.size ∧ turnS t = s ∧ dirsV t.data.toList = true ∧ chgS t = chgS s ∧
    (∀ k (h : k < s.size) (h2 : k < t.size), ((t[k].toNat : Int) == (s[k].toNat : Int)) = false) := by
  have e : (turnS s).data.toList = turnL s.data.toList := by rw [turnS_yes hv, baOf_list]
  have hts : (turnS s).size = s.size := by rw [turnS_yes hv, baOf_size]; simp [turnL]
  have hd := dirs_turn hv
  refine ⟨turnS s, rfl, hts, ?_, by rw [e]; exact hd, ?_, ?_⟩
  · rw [turnS_yes (s := turnS s) (by rw [e]; exact hd), e, turn_turn hv, baOf_self]
  · unfold chgS; rw [e, chgZ_yes hd, chgZ_yes hv, chg_turn (all_ud hv)]
  · intro k h h2
    have e2 : (turnS s)[k] = turnC s[k] := by
      have h3 : k < (turnS s).data.toList.length := by simpa using h2
      have h4 : k < (turnL s.data.toList).length := by rw [turn_length]; exact h
      have : (turnS s).data.toList[k] = (turnL s.data.toList)[k] := by simp only [e]
      simp only [turnL, List.getElem_map] at this
      exact this
    have hm : s[k] ∈ s.data.toList := List.mem_iff_getElem.2 ⟨k, by simpa using h, rfl⟩
    have hne := (turnC_ud (all_ud hv _ hm)).2.2
    rw [e2]
    refine beq_false_of_ne fun h => hne ?_
    simp only [← UInt8.toNat_inj]; omega

set_option maxHeartbeats 1000000 in
theorem w_FnDirections (a0 : Option Addr) (len0 cap0 : Nat) (z0 : List Int) (w : World) (w0 : IsRow .u8 w a0 len0 cap0 z0) :
    Calls Try.prog 5 #[.slice a0 len0 cap0] w fun e w' => e = .returned (.bool true) ∧ Below w.heap.size w w' := by
  obtain ⟨hA, hc, hm⟩ := w0.bytes
  have hAH := Lib.hid hA
  clear w0 hA
  by_cases hs0 : 1048576 < len0
  · have hd0 : decide ((1048576 : Int) < (len0 : Int)) = true := by simp; omega
    go_enter Try.func5, Try.ntmps5
    go_wp2
    go_ret
    exact ⟨rfl, Below.refl _ _⟩
  have hd0 : decide ((1048576 : Int) < (len0 : Int)) = false := by simp; omega
  go_enter Try.func5, Try.ntmps5
  go_wp2_with fail
  refine (d_DrawDirectionsTurn a0 len0 cap0 w hAH.out (by omega) hc hm).mono ?_
  rintro e w1 ⟨s, rfl, hsz, hb⟩
  clear hc hm hAH hs0 hd0
  go_wp2_with fail
  refine (iTurn s _ (by omega)).mono ?_
  rintro e w2 ⟨rfl, hn⟩
  have hb2 : Below w.heap.size w w2 := bl hb (Nat.le_refl _) hn
  clear hn hb
  go_wp2_with fail
  refine (sTurn s _ (by omega)).mono ?_
  rintro e w' ⟨rfl, rfl⟩
  cases hv : dirsV s.data.toList
  · clear hv
    go_wp2
    go_ret
    exact ⟨rfl, hb2⟩
  obtain ⟨t, e1, ht, e2, e3, e4, hne⟩ := dd_facts hv
  have E2 := Lib.hid e2
  have E3 := Lib.hid e3
  have E4 := Lib.hid e4
  have hN := Lib.hid hne
  have hT := Lib.hid ht
  rw [e1]
  clear e1 e2 e3 e4 hne hv ht
  go_wp2_with fail
  refine (iTurn t _ (by rw [hT.out]; omega)).mono ?_
  rintro e w3 ⟨rfl, hn⟩
  rw [E2.out, E3.out]
  have hb3 : Below w.heap.size w w3 := bl hb2 (Nat.le_refl _) hn
  clear hn hb2
  go_wp2_with fail
  go_loopw [10] (fun i wr => ∃ k : Nat, k ≤ s.size ∧ i = .int .i64 k ∧ Below w.heap.size w wr) (fun i _ => s.size - (intOf i).toNat)
  case atStart => exact ⟨0, Nat.zero_le _, rfl, hb3⟩
  case round =>
    obtain ⟨k, hk, rfl, hb⟩ := hrel
    by_cases hlt : k < s.size
    · have h0 : (0 : Int) ≤ (k : Int) := by omega
      have h1 : (k : Int) < (s.size : Int) := by omega
      have h2 : k < t.size := by rw [hT.out]; exact hlt
      have h3 : (k : Int) < (t.size : Int) := by omega
      have hd := hN.out k hlt h2
      go_wp2
      go_region
      all_goals
        go_wp2
        go_roundw
        case rel => exact ⟨k + 1, by omega, by go_num, below_dn hb _⟩
        case measure => simp [intOf]; omega
    · go_wp2_with fail
      refine (iDirsCs t _ (by rw [hT.out]; omega)).mono ?_
      rintro e w4 ⟨rfl, m1, rfl⟩
      rw [E4.out]
      go_wp2_with fail
      refine (iDirsCs s _ (by omega)).mono ?_
      rintro e w4 ⟨rfl, m2, rfl⟩
      go_wp2
      go_ret
      exact ⟨rfl, below_dn hb _⟩
end Go.Proofs.Ytejggpejmooegaa
