/-
  Contract of the reference's BookValid.
-/
import Derived.Test.YtanfhgliilkhjaaBkG
namespace Go.Proofs.Ytanfhgliilkhjaa
open Go.RowKit Go.Deep
set_option linter.unusedVariables false
set_option maxRecDepth 100000 in
set_option maxHeartbeats 4000000 in
theorem sBook (A : Option Addr) (m c : Nat) (D : Nat → LD) (w : World) (h : SsRn w w.heap.size A m D) (hm : m ≤ 1048576) (hD : ∀ i, i < m → (D i).n ≤ 1048576) (v : Bool) (hv : Hid (v = true ↔ bookV D m)) :
    Calls Try.prog 52 #[.slice A m c] w fun e w' => e = .returned (.bool v) ∧ Below w.heap.size w w' := by
  have H := Lib.hid h
  have HD := Lib.hid hD
  clear h hD
  go_enter Try.func52, Try.ntmps52
  go_wp2_with fail
  go_loopw [3] (fun i wr => ∃ k : Nat, k ≤ m ∧ i = .int .i64 k ∧ Hid (bookF D k) ∧ Hid (∃ q, wr = w.drewN q)) (fun i _ => (m - intOf i).toNat)
  case atStart => exact ⟨0, Nat.zero_le _, rfl, bookF_zero D, 0, rfl⟩
  case round =>
    obtain ⟨k, hk, rfl, hG, hq⟩ := hrel
    obtain ⟨q, rfl⟩ := hq.out
    by_cases hlt : k < m
    · obtain ⟨b, off, a1, c1, n1, f1, rfl, hbB, hDk, x0, r1⟩ := H.out.at_ hlt
      have hn1 : n1 ≤ 1048576 := by have := HD.out k hlt; rw [hDk] at this; exact this
      have k0 : (0 : Int) ≤ (k : Int) := by omega
      have k1 : (k : Int) < (m : Int) := by omega
      have R1 := Lib.hid r1
      have DK := Lib.hid hDk
      have x0' := Lib.hid x0
      clear r1 hDk hq
      by_cases hc : codeV ⟨n1, f1⟩
      rotate_left
      · have hno : Hid (v = false) := by
          cases v
          · rfl
          · exact absurd (hv.out.1 rfl) (bookF_no1 hlt (by rw [DK.out]; exact hc))
        have HC := Lib.hid (fun c1 => sCode a1 n1 c1 f1 (w.drewN q) R1.out hn1 false ⟨fun x => (by cases x), fun x => absurd x hc⟩)
        clear hc hv hG
        go_wp2_with (go_at_call 83; refine (HC.out _).mono ?_; rintro e w' ⟨rfl, rfl⟩)
        go_ret
        exact ⟨by simp [hno.out], below_dn (Below.refl _ _) q⟩
      have HC := Lib.hid (fun c1 => sCode a1 n1 c1 f1 (w.drewN q) R1.out hn1 true ⟨fun _ => hc, fun _ => rfl⟩)
      have CV := Lib.hid hc
      clear hc
      go_wp2_with (go_at_call 83; refine (HC.out _).mono ?_; rintro e w' ⟨rfl, rfl⟩)
      go_loopw [4] (fun i wq => ∃ j : Nat, j ≤ k ∧ i = .int .i64 j ∧ Hid (∀ t, t < j → ¬ sameC (D t) (D k)) ∧ Hid (∃ q, wq = w.drewN q)) (fun i _ => (k - intOf i).toNat)
      case atStart => exact ⟨0, Nat.zero_le _, rfl, fun _ h => absurd h (by omega), q, rfl⟩
      case round =>
        obtain ⟨j, hj, rfl, hN, hq⟩ := hrel
        by_cases hjk : j < k
        · obtain ⟨b', off', a2, c2, n2, f2, e', hbB', hDj, y0, r2⟩ := H.out.at_ (show j < m by omega)
          simp only [Option.some.injEq, Addr.mk.injEq, and_true] at e'
          obtain ⟨rfl, rfl⟩ := e'
          have hn2 : n2 ≤ 1048576 := by have := HD.out j (by omega); rw [hDj] at this; exact this
          have R1 : Hid (Rn wr wr.heap.size a1 n1 f1) := by obtain ⟨q2, rfl⟩ := hq.out; exact R1.out
          have R2 : Hid (Rn wr wr.heap.size a2 n2 f2) := by obtain ⟨q2, rfl⟩ := hq.out; exact r2
          have x0 : wr.cell? ⟨b, off + k, none⟩ = some (.slice a1 n1 c1) := by obtain ⟨q2, rfl⟩ := hq.out; exact x0
          have y0 : wr.cell? ⟨b, off + j, none⟩ = some (.slice a2 n2 c2) := by obtain ⟨q2, rfl⟩ := hq.out; exact y0
          have j0 : (0 : Int) ≤ (j : Int) := by omega
          have j1 : (j : Int) < (m : Int) := by omega
          clear r2
          by_cases hs : sameC (D j) (D k)
          · have hno : Hid (v = false) := by
              cases v
              · rfl
              · exact absurd (hv.out.1 rfl) (bookF_no2 hlt hjk hs)
            have hs2 : eqI n1 f1 n2 f2 = true := by
              rw [hDj, DK.out] at hs
              obtain ⟨e1, e2⟩ := hs
              exact decide_eq_true ⟨e1.symm, fun i hi => (e2 i (by simp only [] at e1 ⊢; omega)).symm⟩
            have hl := fun (cA cB z : Nat) => l1same a1 n1 cA f1 a2 n2 cB f2 (wr.drewN z) R1.out R2.out (by omega) (by omega)
            rw [hs2] at hl
            have HL := Lib.hid hl
            clear hs hs2 hv hN hG hDj hl
            go_wp2
            go_quiet (first | (go_at_call 84; exact Calls.quiet_of (HL.out _ _ _)))
            go_wp2
            go_ret
            exact ⟨by simp [hno.out], by obtain ⟨q2, rfl⟩ := hq.out; exact below_dn (below_dn (Below.refl _ _) q2) _⟩
          · have hs2 : eqI n1 f1 n2 f2 = false := by
              refine decide_eq_false fun ⟨e1, e2⟩ => hs ?_
              rw [hDj, DK.out]
              exact ⟨e1.symm, fun i hi => (e2 i (by simp only [] at hi; omega)).symm⟩
            have hl := fun (cA cB z : Nat) => l1same a1 n1 cA f1 a2 n2 cB f2 (wr.drewN z) R1.out R2.out (by omega) (by omega)
            rw [hs2] at hl
            have HL := Lib.hid hl
            have hN2 : Hid (∀ t, t < j + 1 → ¬ sameC (D t) (D k)) := fun t ht => by
              by_cases e : t = j
              · subst e; exact hs
              · exact hN.out t (by omega)
            clear hs hs2 hN hDj hl
            go_wp2
            go_quiet (first | (go_at_call 84; exact Calls.quiet_of (HL.out _ _ _)))
            go_wp2
            go_roundw
            case rel => exact ⟨j + 1, by omega, by go_num, hN2, by obtain ⟨q2, rfl⟩ := hq.out; exact ⟨_, World.drewN_drewN _ _ _⟩⟩
            case measure => simp [intOf]; omega
        · obtain rfl : j = k := by omega
          have hG2 : Hid (bookF D (j + 1)) := bookF_step hG.out (by rw [DK.out]; exact CV.out) hN.out
          clear hG hN
          go_wp2
          go_roundw
          case rel => exact ⟨j + 1, by omega, by go_num, hG2, hq⟩
          case measure => simp [intOf]; omega
    · obtain rfl : k = m := by omega
      have hvv : Hid (decide ((k : Int) ≤ 10) = v) := by
        cases v
        · exact decide_eq_false fun x => by have := hv.out.2 ⟨by omega, hG.out⟩; cases this
        · exact decide_eq_true (by have := (hv.out.1 rfl).1; omega)
      clear hG hv hq
      go_wp2
      go_ret
      exact ⟨by rw [← hvv.out]; simp, below_dn (Below.refl _ _) q⟩
end Go.Proofs.Ytanfhgliilkhjaa
