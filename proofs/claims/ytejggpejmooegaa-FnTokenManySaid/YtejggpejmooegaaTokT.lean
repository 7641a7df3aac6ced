/-
  Contracts of TokenStep, the reference's.
-/
import Derived.Test.YtejggpejmooegaaTokS
import Derived.Deep.RegionWith
import Derived.Deep.RegionHeld3
namespace Go.Proofs.Ytejggpejmooegaa
open Go.RowKit

theorem stepS_v {a b o : Int} {l : List UInt8} (h : tokV a b o = false) : stepS a b o l = none := if_neg (by simp [h])
theorem stepS_len {a b o : Int} {s : ByteArray} (h : ¬ s.size = 1) : stepS a b o s.data.toList = none := by
  unfold stepS
  split
  · have hl : ¬ s.data.toList.length = 1 := by simpa using h
    generalize s.data.toList = l at *
    match l, hl with
    | [], _ => rfl
    | [c], hl => exact absurd rfl hl
    | _ :: _ :: _, _ => rfl
  · rfl
theorem one_of {s : ByteArray} (h : s.size = 1) (h0 : 0 < s.size) : s.data.toList = [s[0]] := by
  rw [cons_of s h0, List.drop_of_length_le (by simp [h])]
theorem stepS_one {a b o : Int} {s : ByteArray} (h : tokV a b o = true) (h1 : s.size = 1) (h0 : 0 < s.size) : stepS a b o s.data.toList = stepO a b o s[0] := by
  unfold stepS; rw [if_pos h, one_of h1 h0]

set_option maxHeartbeats 1000000 in
theorem sTokStep (a b o : Int) (s : ByteArray) (w : World) :
    Calls Try.prog 20 #[.agg #[.int .i64 a, .int .i64 b, .int .i64 o], .string s] w fun e w' => e = .returned (.tuple #[.agg #[.int .i64 (tkA (stepS a b o s.data.toList)), .int .i64 (tkB (stepS a b o s.data.toList)), .int .i64 (tkO (stepS a b o s.data.toList))], .bool (stepS a b o s.data.toList).isSome]) ∧ Below w.heap.size w w' := by
  cases ht : tokV a b o
  · have hn := hide (stepS_v (l := s.data.toList) ht)
    have hT := Lib.hid ht
    clear ht
    go_enter Try.func20, Try.ntmps20
    go_wp2_with (go_at_call 58; refine (sTokVv _ _ _ _ hT.out _).mono ?_; rintro e w1 ⟨rfl, hn⟩; have hb : Below w.heap.size w w1 := bl (by go_grown) (Nat.le_refl _) hn; obtain ⟨hc, hf⟩ := bcell hn; (try simp only [World.size_drew, World.cell?_drew, World.frozen?_drew] at hc hf); have hz : w.heap.size < w1.heap.size := (by have hsz := hn.size; (try simp at hsz); omega); (try (have hz1 : w.heap.size + 1 < w1.heap.size := (by have hsz := hn.size; (try simp at hsz); omega))); clear hn)
    refine bodyPost_ret (by simp [results, Try.results20, go_sem, *]; rfl) rfl ?_
    exact ⟨ret_tk (by rw [hn.out]; rfl) (by rw [hn.out]; rfl), by go_grown⟩
  have hbd := tokV_iff.1 ht
  by_cases h1 : s.size = 1
  rotate_left
  · have hn := hide (stepS_len (a := a) (b := b) (o := o) h1)
    have hq : ((s.size : Int) != 1) = true := by rw [bne_iff_ne]; omega
    have hT := Lib.hid ht
    clear ht h1 hbd
    go_enter Try.func20, Try.ntmps20
    go_wp2_with (go_at_call 58; refine (sTokVv _ _ _ _ hT.out _).mono ?_; rintro e w1 ⟨rfl, hn⟩; have hb : Below w.heap.size w w1 := bl (by go_grown) (Nat.le_refl _) hn; obtain ⟨hc, hf⟩ := bcell hn; (try simp only [World.size_drew, World.cell?_drew, World.frozen?_drew] at hc hf); have hz : w.heap.size < w1.heap.size := (by have hsz := hn.size; (try simp at hsz); omega); (try (have hz1 : w.heap.size + 1 < w1.heap.size := (by have hsz := hn.size; (try simp at hsz); omega))); clear hn)
    refine bodyPost_ret (by simp [results, Try.results20, go_sem, *]; rfl) rfl ?_
    exact ⟨ret_tk (by rw [hn.out]; rfl) (by rw [hn.out]; rfl), by go_grown⟩
  have h0 : 0 < s.size := by omega
  have h0' : (0 : Int) < (s.size : Int) := by omega
  have hn := hide (stepS_one ht h1 h0)
  have hq : ((s.size : Int) != 1) = false := by rw [bne_eq_false_iff_eq]; omega
  have hT := Lib.hid ht
  clear ht h1
  have hab : Hid (0 ≤ a ∧ a ≤ 12 ∧ 0 ≤ b ∧ b ≤ 12) := ⟨hbd.1, hbd.2.1, hbd.2.2.1, hbd.2.2.2.1⟩
  have hob : Hid (0 ≤ o ∧ o ≤ 2) := ⟨hbd.2.2.2.2.1, hbd.2.2.2.2.2.1⟩
  clear hbd
  go_enter Try.func20, Try.ntmps20
  go_wp2_with (go_at_call 58; refine (sTokVv _ _ _ _ hT.out _).mono ?_; rintro e w1 ⟨rfl, hn⟩; have hb : Below w.heap.size w w1 := bl (by go_grown) (Nat.le_refl _) hn; obtain ⟨hc, hf⟩ := bcell hn; (try simp only [World.size_drew, World.cell?_drew, World.frozen?_drew] at hc hf); have hz : w.heap.size < w1.heap.size := (by have hsz := hn.size; (try simp at hsz); omega); (try (have hz1 : w.heap.size + 1 < w1.heap.size := (by have hsz := hn.size; (try simp at hsz); omega))); clear hn)
  go_region_with (go_at_call 59; refine (sStep _ _ _ _ _ hab.out hob.out).mono ?_; rintro e w1 ⟨rfl, hn⟩; have hb : Below w.heap.size w w1 := bl (by go_grown) (Nat.le_refl _) hn; obtain ⟨hc, hf⟩ := bcell hn; (try simp only [World.size_drew, World.cell?_drew, World.frozen?_drew] at hc hf); have hz : w.heap.size < w1.heap.size := (by have hsz := hn.size; (try simp at hsz); omega); (try (have hz1 : w.heap.size + 1 < w1.heap.size := (by have hsz := hn.size; (try simp at hsz); omega))); clear hn)
  all_goals
    go_wp2
    refine bodyPost_ret (by simp [results, Try.results20, go_sem, *]; rfl) rfl ?_
    exact ⟨ret_tk (by rw [hn.out]) (by rw [hn.out]), by go_grown⟩
end Go.Proofs.Ytejggpejmooegaa
