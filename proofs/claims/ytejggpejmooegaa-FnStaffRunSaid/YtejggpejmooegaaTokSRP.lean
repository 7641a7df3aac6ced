/-
  Plain: a staff's run, turned.
-/
import Derived.Test.YtejggpejmooegaaTokTuP
import Derived.Test.YtejggpejmooegaaTokKP
import Derived.Test.YtejggpejmooegaaTokC
namespace Go.Proofs.Ytejggpejmooegaa
open Go.RowKit

theorem endOf_turn {c : UInt8} (h : isUD c = true) : endOf (turnC c) = 1 - endOf c := by
  rcases ud_cases h with rfl | rfl <;> decide
theorem go_turned : ∀ (D K : List UInt8) (a o : Int), (∀ c ∈ D, isUD c = true) → staffGo a D K = some o → staffGo (1 - a) (turnL D) K = some (1 - o)
  | [], K, a, o, _, h => by
    simp only [staffGo, Option.some.injEq] at h
    simp [turnL, staffGo, h]
  | d :: D, [], a, o, _, h => by
    simp only [staffGo, Option.some.injEq] at h
    simp [turnL, staffGo, h]
  | d :: D, k :: K, a, o, hu, h => by
    rw [staffGo] at h
    split at h
    · cases h
    split at h
    · cases h
    rename_i h1 h2
    have h1 : endOf d = a := Decidable.byContradiction h1
    have he := endOf_turn (hu d (by simp))
    show staffGo (1 - a) (turnC d :: turnL D) (k :: K) = _
    rw [staffGo, if_neg (by rw [he]; omega), if_neg h2]
    have := go_turned D K _ o (fun c hc => hu c (by simp [hc])) h
    by_cases hk : k = 83
    · rw [if_pos hk] at this ⊢; exact this
    · rw [if_neg hk] at this ⊢; exact this
theorem go_count : ∀ (D K : List UInt8) (a o : Int), (a = 0 ∨ a = 1) → K.length = D.length → staffGo a D K = some o → (o = 0 ∨ o = 1) ∧ ((o ≠ a) ↔ K.count 83 % 2 = 1)
  | [], [], a, o, ha, _, h => by
    simp only [staffGo, Option.some.injEq] at h
    subst h; simp [ha]
  | [], _ :: _, _, _, _, hl, _ => by simp at hl
  | _ :: _, [], _, _, _, hl, _ => by simp at hl
  | d :: D, k :: K, a, o, ha, hl, h => by
    rw [staffGo] at h
    split at h
    · cases h
    split at h
    · cases h
    by_cases hk : k = 83
    · rw [if_pos hk] at h
      obtain ⟨h1, h2⟩ := go_count D K _ o (by omega) (by simpa using hl) h
      refine ⟨h1, ?_⟩
      rw [hk, List.count_cons_self]
      omega
    · rw [if_neg hk] at h
      obtain ⟨h1, h2⟩ := go_count D K _ o ha (by simpa using hl) h
      refine ⟨h1, ?_⟩
      rw [List.count_cons_of_ne hk]
      exact h2
theorem go_next : ∀ (i : Nat) (D K : List UInt8) (a o : Int), (a = 0 ∨ a = 1) → (∀ c ∈ D, isUD c = true) → K.length = D.length → staffGo a D K = some o → ∀ (h : i + 1 < D.length) (h2 : i < K.length), (D[i + 1] = D[i] ↔ ¬ K[i] = 83)
  | 0, d :: e :: D, k :: l :: K, a, o, ha, hu, hl, h, _, _ => by
    rw [staffGo] at h
    split at h
    · cases h
    split at h
    · cases h
    rename_i h1 _
    have h1 : endOf d = a := Decidable.byContradiction h1
    have hstep : ∀ x, staffGo x (e :: D) (l :: K) = some o → endOf e = x := by
      intro x hx
      rw [staffGo] at hx
      refine Decidable.byContradiction fun hn => ?_
      rw [if_pos hn] at hx
      cases hx
    have h3 := hstep _ h
    show e = d ↔ ¬ k = 83
    have hd := ud_cases (hu d (by simp))
    have he := ud_cases (hu e (by simp))
    by_cases hk : k = 83
    · rw [if_pos hk] at h3
      refine ⟨fun x => ?_, fun x => absurd hk x⟩
      subst x; omega
    · rw [if_neg hk] at h3
      refine ⟨fun _ => hk, fun _ => ?_⟩
      rw [← h1] at h3
      rcases hd with rfl | rfl <;> rcases he with rfl | rfl <;> first | rfl | (exact absurd h3 (by decide))
  | i + 1, d :: D, k :: K, a, o, ha, hu, hl, h, h5, h6 => by
    rw [staffGo] at h
    split at h
    · cases h
    split at h
    · cases h
    have := go_next i D K _ o (by split <;> omega) (fun c hc => hu c (by simp [hc])) (by simpa using hl) h (by simpa using h5) (by simpa using h6)
    exact this
  | _, [], _, _, _, _, _, _, _, h5, _ => by simp at h5
  | _, _ :: _, [], _, _, _, _, _, _, _, h6 => by simp at h6
  | 0, [_], _ :: _, _, _, _, _, _, _, h5, _ => by simp at h5
  | 0, _ :: _ :: _, [_], _, _, _, _, hl, _, _, _ => by simp at hl
/-- What FnStaffRun looks at. -/
theorem sr_facts {a : Int} {s t : ByteArray} {o : Int} (h : staffR a s.data.toList t.data.toList = some o) : (a = 0 ∨ a = 1) ∧ (o = 0 ∨ o = 1) ∧ dirsV s.data.toList = true ∧ t.size = s.size ∧ (turnS s).size = s.size ∧ dirsV (turnS s).data.toList = true ∧
    staffR (1 - a) (turnS s).data.toList t.data.toList = some (1 - o) ∧ ((o ≠ a) ↔ t.data.toList.count 83 % 2 = 1) ∧ (∀ k (h : k + 1 < s.size) (h2 : k < t.size), (s[k + 1] = s[k] ↔ ¬ t[k] = 83)) := by
  have hR := h
  unfold staffR at h
  split at h
  rotate_left
  · cases h
  rename_i hc
  obtain ⟨⟨ha, hv⟩, hl⟩ := hc
  have hu := all_ud hv
  have e : (turnS s).data.toList = turnL s.data.toList := by rw [turnS_yes hv, baOf_list]
  have hts : (turnS s).size = s.size := by rw [turnS_yes hv, baOf_size]; simp [turnL]
  have hd := dirs_turn hv
  obtain ⟨h1, h2⟩ := go_count _ _ _ _ ha hl h
  refine ⟨ha, h1, hv, by simpa using hl, hts, by rw [e]; exact hd, ?_, h2, ?_⟩
  · rw [e]
    unfold staffR
    rw [if_pos ⟨⟨by omega, hd⟩, by rw [hl]; simp [turnL]⟩]
    exact go_turned _ _ _ _ hu h
  · intro k hk hk2
    exact go_next k _ _ _ _ ha hu hl h (by simpa using hk) (by simpa using hk2)
end Go.Proofs.Ytejggpejmooegaa
