/-
  Plain: the kinds of StaffKinds, and how they may end.
-/
import Derived.Test.YtejggpejmooegaaTokKP
import Derived.Test.YtejggpejmooegaaTokC
namespace Go.Proofs.Ytejggpejmooegaa
open Go.RowKit

theorem go_kinds2 (s K : ByteArray) (hv : dirsV s.data.toList = true) (hK : K.size = s.size) (hk1 : ∀ j (h : j < K.size), j + 1 < s.size → K[j] = kindC s j) (hk2 : ∀ j (h : j < K.size), ¬ j + 1 < s.size → K[j] = 83 ∨ K[j] = 84) : ∀ (m k : Nat) (a : Int), s.size - k = m → k ≤ s.size → (∀ h : k < s.size, endOf s[k] = a) →
    (staffGo a (s.data.toList.drop k) (K.data.toList.drop k)).isSome = true := by
  intro m
  induction m with
  | zero =>
    intro k a hm hk _
    rw [go_end a s _ k (by omega)]; rfl
  | succ m ih =>
    intro k a hm hk hE
    have hlt : k < s.size := by omega
    have hlt2 : k < K.size := by omega
    have hE := hE hlt
    by_cases h1 : k + 1 < s.size
    · by_cases he : s[k + 1] = s[k]
      · have hK : K[k] = 84 := by rw [hk1 k hlt2 h1, kindC_t h1 he]
        rw [go_stay a s _ k hlt hlt2 hE (by rw [hK]; rfl)]
        exact ih (k + 1) a (by omega) (by omega) (fun _ => by rw [he]; exact hE)
      · have hK : K[k] = 83 := by rw [hk1 k hlt2 h1, kindC_s h1 he]
        rw [go_turn a s _ k hlt hlt2 hE (by rw [hK]; rfl)]
        exact ih (k + 1) (1 - a) (by omega) (by omega) (fun _ => by rw [end_other hv h1 hlt he, hE])
    · rcases hk2 k hlt2 h1 with hK | hK
      · rw [go_turn a s _ k hlt hlt2 hE (by rw [hK]; rfl)]
        exact ih (k + 1) (1 - a) (by omega) (by omega) (fun h => absurd h h1)
      · rw [go_stay a s _ k hlt hlt2 hE (by rw [hK]; rfl)]
        exact ih (k + 1) a (by omega) (by omega) (fun h => absurd h h1)
theorem kinds_count (s : ByteArray) : ∀ k, k + 1 ≤ s.size → (kindsTo s k).count 83 = chg (s.data.toList.take (k + 1))
  | 0, _ => by rw [chg_none]; rfl
  | k + 1, h => by
    rw [kindsTo_succ, List.count_append, kinds_count s k (by omega), chg_take s k (by omega)]
    by_cases he : s[k + 1] = s[k]
    · rw [kindC_t (by omega) he, if_pos he.symm]; rfl
    · rw [kindC_s (by omega) he, if_neg (fun x => he x.symm)]; rfl
theorem baOf_ext (l : List UInt8) (k : Nat) : (baOf l).extract 0 k = baOf (l.take k) := by
  apply ByteArray.ext
  apply Array.toList_inj.1
  rw [ext_take, baOf_list, baOf_list]
theorem kinds_take (s : ByteArray) (n k : Nat) (h : k ≤ n) : (kindsTo s n).take k = kindsTo s k := by
  unfold kindsTo; rw [← List.map_take, List.take_range, Nat.min_eq_left h]
theorem kinds_cut (s : ByteArray) (m : Nat) (c : UInt8) : (baOf (kindsTo s (m + 1))).extract 0 m ++ (⟨#[c]⟩ : ByteArray) = baOf (kindsTo s m ++ [c]) := by
  rw [baOf_ext, kinds_take s (m + 1) m (by omega), ← baOf_append]; rfl
theorem baOf_at (l : List UInt8) (k : Nat) (h : k < l.length) (h2 : k < (baOf l).size) : (baOf l)[k] = l[k]'h := by
  simp [baOf, ByteArray.getElem_eq_getElem_data]
theorem cut_run {a : Int} {s : ByteArray} {m : Nat} (hs : s.size = m + 1) (hk : kB a s.data.toList = true) (c : UInt8) (hc : c = 83 ∨ c = 84) :
    (staffR a s.data.toList (baOf (kindsTo s m ++ [c])).data.toList).isSome = true := by
  have hk' := hk
  simp only [kB, Bool.and_eq_true, decide_eq_true_eq] at hk
  obtain ⟨⟨ha, hv⟩, hh⟩ := hk
  have h1 : 0 < s.size := by omega
  rw [headOk_cons h1] at hh
  have hsz : (baOf (kindsTo s m ++ [c])).size = s.size := by rw [baOf_size, List.length_append, kindsTo_len, hs]; rfl
  have hg : ∀ j (h : j < (baOf (kindsTo s m ++ [c])).size), (baOf (kindsTo s m ++ [c]))[j] = if j < m then kindC s j else c := by
    intro j h
    have hl : j < (kindsTo s m ++ [c]).length := by rw [← baOf_size]; exact h
    refine (baOf_at _ j hl h).trans ?_
    rw [List.getElem_append]
    have hl' := hl
    rw [List.length_append, kindsTo_len] at hl'
    by_cases e : j < m
    · rw [if_pos e, dif_pos (by rw [kindsTo_len]; exact e)]; simp [kindsTo]
    · rw [if_neg e, dif_neg (by rw [kindsTo_len]; exact e)]; simp
  rw [staffR_go ha hv hsz]
  have := go_kinds2 s (baOf (kindsTo s m ++ [c])) hv hsz (fun j h h2 => by rw [hg j h, if_pos (by omega)]) (fun j h h2 => by rw [hg j h, if_neg (by omega)]; exact hc) s.size 0 a rfl (by omega) (fun _ => by simpa using hh)
  simpa using this
theorem sk_facts {a : Int} {s : ByteArray} (hk : kB a s.data.toList = true) : ∃ t, kS a s = t ∧ t.size = s.size ∧ (a = 0 ∨ a = 1) ∧ dirsV s.data.toList = true ∧ (staffR a s.data.toList t.data.toList).isSome = true ∧
    ((s.size = 0 ∧ soN (staffR a s.data.toList t.data.toList) = a) ∨ (∃ m, s.size = m + 1 ∧ (staffR a s.data.toList (t.extract 0 m ++ (⟨#[83]⟩ : ByteArray)).data.toList).isSome = true ∧ (staffR a s.data.toList (t.extract 0 m ++ (⟨#[84]⟩ : ByteArray)).data.toList).isSome = true ∧
      t.data.toList.count 83 = chg s.data.toList ∧ (∃ _ : m < t.size, t[m] = 84) ∧ staffM a s.data.toList = 2)) := by
  have hk' := hk
  have hk2 := hk
  simp only [kB, Bool.and_eq_true, decide_eq_true_eq] at hk
  obtain ⟨⟨ha, hv⟩, hh⟩ := hk
  refine ⟨_, rfl, by rw [kS_yes hk', kindsTo_size], ha, hv, by rw [kS_yes hk', kinds_run a s hv, hk'], ?_⟩
  rw [kS_yes hk']
  by_cases h0 : s.size = 0
  · left
    refine ⟨h0, ?_⟩
    rw [staffR_go ha hv (kindsTo_size s s.size)]
    have := go_end a s (baOf (kindsTo s s.size)) 0 (by omega)
    simp only [List.drop_zero] at this
    rw [this]; rfl
  · right
    obtain ⟨m, hm⟩ : ∃ m, s.size = m + 1 := ⟨s.size - 1, by omega⟩
    refine ⟨m, hm, ?_, ?_, ?_, ⟨by rw [kindsTo_size]; omega, ?_⟩, ?_⟩
    · rw [hm, kinds_cut]; exact cut_run hm hk' 83 (.inl rfl)
    · rw [hm, kinds_cut]; exact cut_run hm hk' 84 (.inr rfl)
    · rw [baOf_list, hm, kindsTo_succ, kindC_end (by omega), List.count_append, kinds_count s m (by omega), chg_all s (m + 1) (by omega)]; rfl
    · rw [ba_at s s.size m (by omega), kindC_end (by omega)]
    · rw [staffM_cons ha hv (by omega), if_pos]
      rw [headOk_cons (by omega)] at hh
      simpa using hh
end Go.Proofs.Ytejggpejmooegaa
