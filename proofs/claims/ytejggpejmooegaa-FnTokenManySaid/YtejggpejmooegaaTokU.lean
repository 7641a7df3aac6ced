/-
  Contracts of TokenStep, the program's.
-/
import Derived.Test.YtejggpejmooegaaTokT
namespace Go.Proofs.Ytejggpejmooegaa
open Go.RowKit

theorem toList_data (s : ByteArray) : s.toList = s.data.toList := Go.ByteArray.toList_eq s
theorem stepS_is {a b o : Int} {s : ByteArray} {c : UInt8} (h : tokV a b o = true) (e : s.toList = [c]) : stepS a b o s.data.toList = stepO a b o c := by
  unfold stepS; rw [if_pos h, ← toList_data, e]
theorem stepS_isnt {a b o : Int} {s : ByteArray} (h1 : ¬ s.toList = [97]) (h2 : ¬ s.toList = [98]) (h3 : ¬ s.toList = [112]) (h4 : ¬ s.toList = [113]) : stepS a b o s.data.toList = none := by
  unfold stepS
  split
  · rw [toList_data] at h1 h2 h3 h4
    generalize s.data.toList = l at *
    match l, h1, h2, h3, h4 with
    | [], _, _, _, _ => rfl
    | [c], h1, h2, h3, h4 => exact step_else (fun e => h1 (by rw [e])) (fun e => h2 (by rw [e])) (fun e => h3 (by rw [e])) (fun e => h4 (by rw [e]))
    | _ :: _ :: _, _, _, _, _ => rfl
  · rfl
set_option maxHeartbeats 400000 in
theorem i_a_o0_apos (a b o : Int) (s : ByteArray) (w : World) (ht : tokV a b o = true) (he : s.toList = [97]) (hab : 0 ≤ a ∧ a ≤ 12 ∧ 0 ≤ b ∧ b ≤ 12) (ho : o = 0) (ha : 0 < a) :
    Calls Try.prog 19 #[.agg #[.int .i64 a, .int .i64 b, .int .i64 o], .string s] w fun e w' => e = .returned (.tuple #[.agg #[.int .i64 (tkA (stepS a b o s.data.toList)), .int .i64 (tkB (stepS a b o s.data.toList)), .int .i64 (tkO (stepS a b o s.data.toList))], .bool (stepS a b o s.data.toList).isSome]) ∧ Below w.heap.size w w' := by
  have hn := hide ((stepS_is ht he).trans (step_a ho ha : stepO a b o 97 = _))
  have hT := Lib.hid ht
  clear ht
  obtain ⟨b1, b2, b3, b4⟩ := hab
  have q1 : (o == 0) = true := beq_iff_eq.2 ho
  clear ho
  go_enter Try.func19, Try.ntmps19
  go_wp2_with (go_at_call 21; refine (iTokVv _ _ _ _ hT.out _).mono ?_; rintro e w1 ⟨rfl, hn⟩; have hb : Below w.heap.size w w1 := bl (by go_grown) (Nat.le_refl _) hn; obtain ⟨hc, hf⟩ := bcell hn; (try simp only [World.size_drew, World.cell?_drew, World.frozen?_drew] at hc hf); have hz : w.heap.size < w1.heap.size := (by have hsz := hn.size; (try simp at hsz); omega); (try (have hz1 : w.heap.size + 1 < w1.heap.size := (by have hsz := hn.size; (try simp at hsz); omega))); clear hn)
  refine bodyPost_ret (by simp [results, Try.results19, go_sem, *]; rfl) rfl ?_
  exact ⟨ret_tk (by rw [hn.out]; rfl) (by rw [hn.out]; rfl), by go_grown⟩
set_option maxHeartbeats 400000 in
theorem i_a_o0_aneg (a b o : Int) (s : ByteArray) (w : World) (ht : tokV a b o = true) (he : s.toList = [97]) (hab : 0 ≤ a ∧ a ≤ 12 ∧ 0 ≤ b ∧ b ≤ 12) (ho : o = 0) (ha : a ≤ 0) :
    Calls Try.prog 19 #[.agg #[.int .i64 a, .int .i64 b, .int .i64 o], .string s] w fun e w' => e = .returned (.tuple #[.agg #[.int .i64 (tkA (stepS a b o s.data.toList)), .int .i64 (tkB (stepS a b o s.data.toList)), .int .i64 (tkO (stepS a b o s.data.toList))], .bool (stepS a b o s.data.toList).isSome]) ∧ Below w.heap.size w w' := by
  have hn := hide ((stepS_is ht he).trans (step_a_no (by omega) : stepO a b o 97 = _))
  have hT := Lib.hid ht
  clear ht
  obtain ⟨b1, b2, b3, b4⟩ := hab
  have q1 : (o == 0) = true := beq_iff_eq.2 ho
  clear ho
  go_enter Try.func19, Try.ntmps19
  go_wp2_with (go_at_call 21; refine (iTokVv _ _ _ _ hT.out _).mono ?_; rintro e w1 ⟨rfl, hn⟩; have hb : Below w.heap.size w w1 := bl (by go_grown) (Nat.le_refl _) hn; obtain ⟨hc, hf⟩ := bcell hn; (try simp only [World.size_drew, World.cell?_drew, World.frozen?_drew] at hc hf); have hz : w.heap.size < w1.heap.size := (by have hsz := hn.size; (try simp at hsz); omega); (try (have hz1 : w.heap.size + 1 < w1.heap.size := (by have hsz := hn.size; (try simp at hsz); omega))); clear hn)
  refine bodyPost_ret (by simp [results, Try.results19, go_sem, *]; rfl) rfl ?_
  exact ⟨ret_tk (by rw [hn.out]; rfl) (by rw [hn.out]; rfl), by go_grown⟩
set_option maxHeartbeats 400000 in
theorem i_a_o1 (a b o : Int) (s : ByteArray) (w : World) (ht : tokV a b o = true) (he : s.toList = [97]) (hab : 0 ≤ a ∧ a ≤ 12 ∧ 0 ≤ b ∧ b ≤ 12) (ho : ¬ o = 0) :
    Calls Try.prog 19 #[.agg #[.int .i64 a, .int .i64 b, .int .i64 o], .string s] w fun e w' => e = .returned (.tuple #[.agg #[.int .i64 (tkA (stepS a b o s.data.toList)), .int .i64 (tkB (stepS a b o s.data.toList)), .int .i64 (tkO (stepS a b o s.data.toList))], .bool (stepS a b o s.data.toList).isSome]) ∧ Below w.heap.size w w' := by
  have hn := hide ((stepS_is ht he).trans (step_a_no (by omega) : stepO a b o 97 = _))
  have hT := Lib.hid ht
  clear ht
  obtain ⟨b1, b2, b3, b4⟩ := hab
  have q1 : (o == 0) = false := beq_eq_false_iff_ne.2 ho
  clear ho
  go_enter Try.func19, Try.ntmps19
  go_wp2_with (go_at_call 21; refine (iTokVv _ _ _ _ hT.out _).mono ?_; rintro e w1 ⟨rfl, hn⟩; have hb : Below w.heap.size w w1 := bl (by go_grown) (Nat.le_refl _) hn; obtain ⟨hc, hf⟩ := bcell hn; (try simp only [World.size_drew, World.cell?_drew, World.frozen?_drew] at hc hf); have hz : w.heap.size < w1.heap.size := (by have hsz := hn.size; (try simp at hsz); omega); (try (have hz1 : w.heap.size + 1 < w1.heap.size := (by have hsz := hn.size; (try simp at hsz); omega))); clear hn)
  refine bodyPost_ret (by simp [results, Try.results19, go_sem, *]; rfl) rfl ?_
  exact ⟨ret_tk (by rw [hn.out]; rfl) (by rw [hn.out]; rfl), by go_grown⟩
set_option maxHeartbeats 400000 in
theorem i_b_o0_bpos (a b o : Int) (s : ByteArray) (w : World) (ht : tokV a b o = true) (he : s.toList = [98]) (hab : 0 ≤ a ∧ a ≤ 12 ∧ 0 ≤ b ∧ b ≤ 12) (ho : o = 0) (hb : 0 < b) :
    Calls Try.prog 19 #[.agg #[.int .i64 a, .int .i64 b, .int .i64 o], .string s] w fun e w' => e = .returned (.tuple #[.agg #[.int .i64 (tkA (stepS a b o s.data.toList)), .int .i64 (tkB (stepS a b o s.data.toList)), .int .i64 (tkO (stepS a b o s.data.toList))], .bool (stepS a b o s.data.toList).isSome]) ∧ Below w.heap.size w w' := by
  have hn := hide ((stepS_is ht he).trans (step_b ho hb : stepO a b o 98 = _))
  have hT := Lib.hid ht
  clear ht
  obtain ⟨b1, b2, b3, b4⟩ := hab
  have q1 : (o == 0) = true := beq_iff_eq.2 ho
  clear ho
  go_enter Try.func19, Try.ntmps19
  go_wp2_with (go_at_call 21; refine (iTokVv _ _ _ _ hT.out _).mono ?_; rintro e w1 ⟨rfl, hn⟩; have hb : Below w.heap.size w w1 := bl (by go_grown) (Nat.le_refl _) hn; obtain ⟨hc, hf⟩ := bcell hn; (try simp only [World.size_drew, World.cell?_drew, World.frozen?_drew] at hc hf); have hz : w.heap.size < w1.heap.size := (by have hsz := hn.size; (try simp at hsz); omega); (try (have hz1 : w.heap.size + 1 < w1.heap.size := (by have hsz := hn.size; (try simp at hsz); omega))); clear hn)
  refine bodyPost_ret (by simp [results, Try.results19, go_sem, *]; rfl) rfl ?_
  exact ⟨ret_tk (by rw [hn.out]; rfl) (by rw [hn.out]; rfl), by go_grown⟩
set_option maxHeartbeats 400000 in
theorem i_b_o0_bneg (a b o : Int) (s : ByteArray) (w : World) (ht : tokV a b o = true) (he : s.toList = [98]) (hab : 0 ≤ a ∧ a ≤ 12 ∧ 0 ≤ b ∧ b ≤ 12) (ho : o = 0) (hb : b ≤ 0) :
    Calls Try.prog 19 #[.agg #[.int .i64 a, .int .i64 b, .int .i64 o], .string s] w fun e w' => e = .returned (.tuple #[.agg #[.int .i64 (tkA (stepS a b o s.data.toList)), .int .i64 (tkB (stepS a b o s.data.toList)), .int .i64 (tkO (stepS a b o s.data.toList))], .bool (stepS a b o s.data.toList).isSome]) ∧ Below w.heap.size w w' := by
  have hn := hide ((stepS_is ht he).trans (step_b_no (by omega) : stepO a b o 98 = _))
  have hT := Lib.hid ht
  clear ht
  obtain ⟨b1, b2, b3, b4⟩ := hab
  have q1 : (o == 0) = true := beq_iff_eq.2 ho
  clear ho
  go_enter Try.func19, Try.ntmps19
  go_wp2_with (go_at_call 21; refine (iTokVv _ _ _ _ hT.out _).mono ?_; rintro e w1 ⟨rfl, hn⟩; have hb : Below w.heap.size w w1 := bl (by go_grown) (Nat.le_refl _) hn; obtain ⟨hc, hf⟩ := bcell hn; (try simp only [World.size_drew, World.cell?_drew, World.frozen?_drew] at hc hf); have hz : w.heap.size < w1.heap.size := (by have hsz := hn.size; (try simp at hsz); omega); (try (have hz1 : w.heap.size + 1 < w1.heap.size := (by have hsz := hn.size; (try simp at hsz); omega))); clear hn)
  refine bodyPost_ret (by simp [results, Try.results19, go_sem, *]; rfl) rfl ?_
  exact ⟨ret_tk (by rw [hn.out]; rfl) (by rw [hn.out]; rfl), by go_grown⟩
set_option maxHeartbeats 400000 in
theorem i_b_o1 (a b o : Int) (s : ByteArray) (w : World) (ht : tokV a b o = true) (he : s.toList = [98]) (hab : 0 ≤ a ∧ a ≤ 12 ∧ 0 ≤ b ∧ b ≤ 12) (ho : ¬ o = 0) :
    Calls Try.prog 19 #[.agg #[.int .i64 a, .int .i64 b, .int .i64 o], .string s] w fun e w' => e = .returned (.tuple #[.agg #[.int .i64 (tkA (stepS a b o s.data.toList)), .int .i64 (tkB (stepS a b o s.data.toList)), .int .i64 (tkO (stepS a b o s.data.toList))], .bool (stepS a b o s.data.toList).isSome]) ∧ Below w.heap.size w w' := by
  have hn := hide ((stepS_is ht he).trans (step_b_no (by omega) : stepO a b o 98 = _))
  have hT := Lib.hid ht
  clear ht
  obtain ⟨b1, b2, b3, b4⟩ := hab
  have q1 : (o == 0) = false := beq_eq_false_iff_ne.2 ho
  clear ho
  go_enter Try.func19, Try.ntmps19
  go_wp2_with (go_at_call 21; refine (iTokVv _ _ _ _ hT.out _).mono ?_; rintro e w1 ⟨rfl, hn⟩; have hb : Below w.heap.size w w1 := bl (by go_grown) (Nat.le_refl _) hn; obtain ⟨hc, hf⟩ := bcell hn; (try simp only [World.size_drew, World.cell?_drew, World.frozen?_drew] at hc hf); have hz : w.heap.size < w1.heap.size := (by have hsz := hn.size; (try simp at hsz); omega); (try (have hz1 : w.heap.size + 1 < w1.heap.size := (by have hsz := hn.size; (try simp at hsz); omega))); clear hn)
  refine bodyPost_ret (by simp [results, Try.results19, go_sem, *]; rfl) rfl ?_
  exact ⟨ret_tk (by rw [hn.out]; rfl) (by rw [hn.out]; rfl), by go_grown⟩
set_option maxHeartbeats 400000 in
theorem i_p_o1 (a b o : Int) (s : ByteArray) (w : World) (ht : tokV a b o = true) (he : s.toList = [112]) (hab : 0 ≤ a ∧ a ≤ 12 ∧ 0 ≤ b ∧ b ≤ 12) (ho : o = 1) :
    Calls Try.prog 19 #[.agg #[.int .i64 a, .int .i64 b, .int .i64 o], .string s] w fun e w' => e = .returned (.tuple #[.agg #[.int .i64 (tkA (stepS a b o s.data.toList)), .int .i64 (tkB (stepS a b o s.data.toList)), .int .i64 (tkO (stepS a b o s.data.toList))], .bool (stepS a b o s.data.toList).isSome]) ∧ Below w.heap.size w w' := by
  have hn := hide ((stepS_is ht he).trans (step_p1 ho : stepO a b o 112 = _))
  have hT := Lib.hid ht
  clear ht
  obtain ⟨b1, b2, b3, b4⟩ := hab
  have q1 : (o == 1) = true := beq_iff_eq.2 ho
  clear ho
  go_enter Try.func19, Try.ntmps19
  go_wp2_with (go_at_call 21; refine (iTokVv _ _ _ _ hT.out _).mono ?_; rintro e w1 ⟨rfl, hn⟩; have hb : Below w.heap.size w w1 := bl (by go_grown) (Nat.le_refl _) hn; obtain ⟨hc, hf⟩ := bcell hn; (try simp only [World.size_drew, World.cell?_drew, World.frozen?_drew] at hc hf); have hz : w.heap.size < w1.heap.size := (by have hsz := hn.size; (try simp at hsz); omega); (try (have hz1 : w.heap.size + 1 < w1.heap.size := (by have hsz := hn.size; (try simp at hsz); omega))); clear hn)
  refine bodyPost_ret (by simp [results, Try.results19, go_sem, *]; rfl) rfl ?_
  exact ⟨ret_tk (by rw [hn.out]; rfl) (by rw [hn.out]; rfl), by go_grown⟩
set_option maxHeartbeats 400000 in
theorem i_p_o2 (a b o : Int) (s : ByteArray) (w : World) (ht : tokV a b o = true) (he : s.toList = [112]) (hab : 0 ≤ a ∧ a ≤ 12 ∧ 0 ≤ b ∧ b ≤ 12) (ho : o = 2) :
    Calls Try.prog 19 #[.agg #[.int .i64 a, .int .i64 b, .int .i64 o], .string s] w fun e w' => e = .returned (.tuple #[.agg #[.int .i64 (tkA (stepS a b o s.data.toList)), .int .i64 (tkB (stepS a b o s.data.toList)), .int .i64 (tkO (stepS a b o s.data.toList))], .bool (stepS a b o s.data.toList).isSome]) ∧ Below w.heap.size w w' := by
  have hn := hide ((stepS_is ht he).trans (step_p2 ho : stepO a b o 112 = _))
  have hT := Lib.hid ht
  clear ht
  obtain ⟨b1, b2, b3, b4⟩ := hab
  have q1 : (o == 1) = false := beq_eq_false_iff_ne.2 (by omega)
  have q2 : (o == 2) = true := beq_iff_eq.2 ho
  clear ho
  go_enter Try.func19, Try.ntmps19
  go_wp2_with (go_at_call 21; refine (iTokVv _ _ _ _ hT.out _).mono ?_; rintro e w1 ⟨rfl, hn⟩; have hb : Below w.heap.size w w1 := bl (by go_grown) (Nat.le_refl _) hn; obtain ⟨hc, hf⟩ := bcell hn; (try simp only [World.size_drew, World.cell?_drew, World.frozen?_drew] at hc hf); have hz : w.heap.size < w1.heap.size := (by have hsz := hn.size; (try simp at hsz); omega); (try (have hz1 : w.heap.size + 1 < w1.heap.size := (by have hsz := hn.size; (try simp at hsz); omega))); clear hn)
  refine bodyPost_ret (by simp [results, Try.results19, go_sem, *]; rfl) rfl ?_
  exact ⟨ret_tk (by rw [hn.out]; rfl) (by rw [hn.out]; rfl), by go_grown⟩
set_option maxHeartbeats 400000 in
theorem i_p_o0 (a b o : Int) (s : ByteArray) (w : World) (ht : tokV a b o = true) (he : s.toList = [112]) (hab : 0 ≤ a ∧ a ≤ 12 ∧ 0 ≤ b ∧ b ≤ 12) (ho : o = 0) :
    Calls Try.prog 19 #[.agg #[.int .i64 a, .int .i64 b, .int .i64 o], .string s] w fun e w' => e = .returned (.tuple #[.agg #[.int .i64 (tkA (stepS a b o s.data.toList)), .int .i64 (tkB (stepS a b o s.data.toList)), .int .i64 (tkO (stepS a b o s.data.toList))], .bool (stepS a b o s.data.toList).isSome]) ∧ Below w.heap.size w w' := by
  have hn := hide ((stepS_is ht he).trans (step_p_no (by omega) (by omega) : stepO a b o 112 = _))
  have hT := Lib.hid ht
  clear ht
  obtain ⟨b1, b2, b3, b4⟩ := hab
  have q1 : (o == 1) = false := beq_eq_false_iff_ne.2 (by omega)
  have q2 : (o == 2) = false := beq_eq_false_iff_ne.2 (by omega)
  clear ho
  go_enter Try.func19, Try.ntmps19
  go_wp2_with (go_at_call 21; refine (iTokVv _ _ _ _ hT.out _).mono ?_; rintro e w1 ⟨rfl, hn⟩; have hb : Below w.heap.size w w1 := bl (by go_grown) (Nat.le_refl _) hn; obtain ⟨hc, hf⟩ := bcell hn; (try simp only [World.size_drew, World.cell?_drew, World.frozen?_drew] at hc hf); have hz : w.heap.size < w1.heap.size := (by have hsz := hn.size; (try simp at hsz); omega); (try (have hz1 : w.heap.size + 1 < w1.heap.size := (by have hsz := hn.size; (try simp at hsz); omega))); clear hn)
  refine bodyPost_ret (by simp [results, Try.results19, go_sem, *]; rfl) rfl ?_
  exact ⟨ret_tk (by rw [hn.out]; rfl) (by rw [hn.out]; rfl), by go_grown⟩
set_option maxHeartbeats 400000 in
theorem i_q_o1 (a b o : Int) (s : ByteArray) (w : World) (ht : tokV a b o = true) (he : s.toList = [113]) (hab : 0 ≤ a ∧ a ≤ 12 ∧ 0 ≤ b ∧ b ≤ 12) (ho : o = 1) :
    Calls Try.prog 19 #[.agg #[.int .i64 a, .int .i64 b, .int .i64 o], .string s] w fun e w' => e = .returned (.tuple #[.agg #[.int .i64 (tkA (stepS a b o s.data.toList)), .int .i64 (tkB (stepS a b o s.data.toList)), .int .i64 (tkO (stepS a b o s.data.toList))], .bool (stepS a b o s.data.toList).isSome]) ∧ Below w.heap.size w w' := by
  have hn := hide ((stepS_is ht he).trans (step_q1 ho : stepO a b o 113 = _))
  have hT := Lib.hid ht
  clear ht
  obtain ⟨b1, b2, b3, b4⟩ := hab
  have q1 : (o == 2) = false := beq_eq_false_iff_ne.2 (by omega)
  have q2 : (o == 1) = true := beq_iff_eq.2 ho
  clear ho
  go_enter Try.func19, Try.ntmps19
  go_wp2_with (go_at_call 21; refine (iTokVv _ _ _ _ hT.out _).mono ?_; rintro e w1 ⟨rfl, hn⟩; have hb : Below w.heap.size w w1 := bl (by go_grown) (Nat.le_refl _) hn; obtain ⟨hc, hf⟩ := bcell hn; (try simp only [World.size_drew, World.cell?_drew, World.frozen?_drew] at hc hf); have hz : w.heap.size < w1.heap.size := (by have hsz := hn.size; (try simp at hsz); omega); (try (have hz1 : w.heap.size + 1 < w1.heap.size := (by have hsz := hn.size; (try simp at hsz); omega))); clear hn)
  refine bodyPost_ret (by simp [results, Try.results19, go_sem, *]; rfl) rfl ?_
  exact ⟨ret_tk (by rw [hn.out]; rfl) (by rw [hn.out]; rfl), by go_grown⟩
set_option maxHeartbeats 400000 in
theorem i_q_o2 (a b o : Int) (s : ByteArray) (w : World) (ht : tokV a b o = true) (he : s.toList = [113]) (hab : 0 ≤ a ∧ a ≤ 12 ∧ 0 ≤ b ∧ b ≤ 12) (ho : o = 2) :
    Calls Try.prog 19 #[.agg #[.int .i64 a, .int .i64 b, .int .i64 o], .string s] w fun e w' => e = .returned (.tuple #[.agg #[.int .i64 (tkA (stepS a b o s.data.toList)), .int .i64 (tkB (stepS a b o s.data.toList)), .int .i64 (tkO (stepS a b o s.data.toList))], .bool (stepS a b o s.data.toList).isSome]) ∧ Below w.heap.size w w' := by
  have hn := hide ((stepS_is ht he).trans (step_q2 ho : stepO a b o 113 = _))
  have hT := Lib.hid ht
  clear ht
  obtain ⟨b1, b2, b3, b4⟩ := hab
  have q1 : (o == 2) = true := beq_iff_eq.2 ho
  clear ho
  go_enter Try.func19, Try.ntmps19
  go_wp2_with (go_at_call 21; refine (iTokVv _ _ _ _ hT.out _).mono ?_; rintro e w1 ⟨rfl, hn⟩; have hb : Below w.heap.size w w1 := bl (by go_grown) (Nat.le_refl _) hn; obtain ⟨hc, hf⟩ := bcell hn; (try simp only [World.size_drew, World.cell?_drew, World.frozen?_drew] at hc hf); have hz : w.heap.size < w1.heap.size := (by have hsz := hn.size; (try simp at hsz); omega); (try (have hz1 : w.heap.size + 1 < w1.heap.size := (by have hsz := hn.size; (try simp at hsz); omega))); clear hn)
  refine bodyPost_ret (by simp [results, Try.results19, go_sem, *]; rfl) rfl ?_
  exact ⟨ret_tk (by rw [hn.out]; rfl) (by rw [hn.out]; rfl), by go_grown⟩
set_option maxHeartbeats 400000 in
theorem i_q_o0 (a b o : Int) (s : ByteArray) (w : World) (ht : tokV a b o = true) (he : s.toList = [113]) (hab : 0 ≤ a ∧ a ≤ 12 ∧ 0 ≤ b ∧ b ≤ 12) (ho : o = 0) :
    Calls Try.prog 19 #[.agg #[.int .i64 a, .int .i64 b, .int .i64 o], .string s] w fun e w' => e = .returned (.tuple #[.agg #[.int .i64 (tkA (stepS a b o s.data.toList)), .int .i64 (tkB (stepS a b o s.data.toList)), .int .i64 (tkO (stepS a b o s.data.toList))], .bool (stepS a b o s.data.toList).isSome]) ∧ Below w.heap.size w w' := by
  have hn := hide ((stepS_is ht he).trans (step_q_no (by omega) (by omega) : stepO a b o 113 = _))
  have hT := Lib.hid ht
  clear ht
  obtain ⟨b1, b2, b3, b4⟩ := hab
  have q1 : (o == 1) = false := beq_eq_false_iff_ne.2 (by omega)
  have q2 : (o == 2) = false := beq_eq_false_iff_ne.2 (by omega)
  clear ho
  go_enter Try.func19, Try.ntmps19
  go_wp2_with (go_at_call 21; refine (iTokVv _ _ _ _ hT.out _).mono ?_; rintro e w1 ⟨rfl, hn⟩; have hb : Below w.heap.size w w1 := bl (by go_grown) (Nat.le_refl _) hn; obtain ⟨hc, hf⟩ := bcell hn; (try simp only [World.size_drew, World.cell?_drew, World.frozen?_drew] at hc hf); have hz : w.heap.size < w1.heap.size := (by have hsz := hn.size; (try simp at hsz); omega); (try (have hz1 : w.heap.size + 1 < w1.heap.size := (by have hsz := hn.size; (try simp at hsz); omega))); clear hn)
  refine bodyPost_ret (by simp [results, Try.results19, go_sem, *]; rfl) rfl ?_
  exact ⟨ret_tk (by rw [hn.out]; rfl) (by rw [hn.out]; rfl), by go_grown⟩
set_option maxHeartbeats 400000 in
theorem i_else (a b o : Int) (s : ByteArray) (w : World) (ht : tokV a b o = true) (h1 : ¬ s.toList = [97]) (h2 : ¬ s.toList = [98]) (h3 : ¬ s.toList = [112]) (h4 : ¬ s.toList = [113]) :
    Calls Try.prog 19 #[.agg #[.int .i64 a, .int .i64 b, .int .i64 o], .string s] w fun e w' => e = .returned (.tuple #[.agg #[.int .i64 (tkA (stepS a b o s.data.toList)), .int .i64 (tkB (stepS a b o s.data.toList)), .int .i64 (tkO (stepS a b o s.data.toList))], .bool (stepS a b o s.data.toList).isSome]) ∧ Below w.heap.size w w' := by
  have hn := hide (stepS_isnt (a := a) (b := b) (o := o) h1 h2 h3 h4)
  have hT := Lib.hid ht
  clear ht
  go_enter Try.func19, Try.ntmps19
  go_wp2_with (go_at_call 21; refine (iTokVv _ _ _ _ hT.out _).mono ?_; rintro e w1 ⟨rfl, hn⟩; have hb : Below w.heap.size w w1 := bl (by go_grown) (Nat.le_refl _) hn; obtain ⟨hc, hf⟩ := bcell hn; (try simp only [World.size_drew, World.cell?_drew, World.frozen?_drew] at hc hf); have hz : w.heap.size < w1.heap.size := (by have hsz := hn.size; (try simp at hsz); omega); (try (have hz1 : w.heap.size + 1 < w1.heap.size := (by have hsz := hn.size; (try simp at hsz); omega))); clear hn)
  refine bodyPost_ret (by simp [results, Try.results19, go_sem, *]; rfl) rfl ?_
  exact ⟨ret_tk (by rw [hn.out]; rfl) (by rw [hn.out]; rfl), by go_grown⟩
set_option maxHeartbeats 400000 in
theorem i_bad (a b o : Int) (s : ByteArray) (w : World) (ht : tokV a b o = false) :
    Calls Try.prog 19 #[.agg #[.int .i64 a, .int .i64 b, .int .i64 o], .string s] w fun e w' => e = .returned (.tuple #[.agg #[.int .i64 (tkA (stepS a b o s.data.toList)), .int .i64 (tkB (stepS a b o s.data.toList)), .int .i64 (tkO (stepS a b o s.data.toList))], .bool (stepS a b o s.data.toList).isSome]) ∧ Below w.heap.size w w' := by
  have hn := hide (stepS_v (l := s.data.toList) ht)
  have hT := Lib.hid ht
  clear ht
  go_enter Try.func19, Try.ntmps19
  go_wp2_with (go_at_call 21; refine (iTokVv _ _ _ _ hT.out _).mono ?_; rintro e w1 ⟨rfl, hn⟩; have hb : Below w.heap.size w w1 := bl (by go_grown) (Nat.le_refl _) hn; obtain ⟨hc, hf⟩ := bcell hn; (try simp only [World.size_drew, World.cell?_drew, World.frozen?_drew] at hc hf); have hz : w.heap.size < w1.heap.size := (by have hsz := hn.size; (try simp at hsz); omega); (try (have hz1 : w.heap.size + 1 < w1.heap.size := (by have hsz := hn.size; (try simp at hsz); omega))); clear hn)
  refine bodyPost_ret (by simp [results, Try.results19, go_sem, *]; rfl) rfl ?_
  exact ⟨ret_tk (by rw [hn.out]; rfl) (by rw [hn.out]; rfl), by go_grown⟩
theorem iTokStep (a b o : Int) (s : ByteArray) (w : World) :
    Calls Try.prog 19 #[.agg #[.int .i64 a, .int .i64 b, .int .i64 o], .string s] w fun e w' => e = .returned (.tuple #[.agg #[.int .i64 (tkA (stepS a b o s.data.toList)), .int .i64 (tkB (stepS a b o s.data.toList)), .int .i64 (tkO (stepS a b o s.data.toList))], .bool (stepS a b o s.data.toList).isSome]) ∧ Below w.heap.size w w' := by
  cases ht : tokV a b o
  · exact i_bad a b o s w ht
  obtain ⟨b1, b2, b3, b4, b5, b6, _⟩ := tokV_iff.1 ht
  have hab : 0 ≤ a ∧ a ≤ 12 ∧ 0 ≤ b ∧ b ≤ 12 := ⟨b1, b2, b3, b4⟩
  by_cases h1 : s.toList = [97]
  · by_cases h0 : o = 0
    · by_cases ha : 0 < a
      · exact i_a_o0_apos a b o s w ht h1 hab h0 ha
      · exact i_a_o0_aneg a b o s w ht h1 hab h0 (by omega)
    · exact i_a_o1 a b o s w ht h1 hab h0
  by_cases h2 : s.toList = [98]
  · by_cases h0 : o = 0
    · by_cases hb : 0 < b
      · exact i_b_o0_bpos a b o s w ht h2 hab h0 hb
      · exact i_b_o0_bneg a b o s w ht h2 hab h0 (by omega)
    · exact i_b_o1 a b o s w ht h2 hab h0
  by_cases h3 : s.toList = [112]
  · rcases (show o = 0 ∨ o = 1 ∨ o = 2 by omega) with h0 | h0 | h0
    · exact i_p_o0 a b o s w ht h3 hab h0
    · exact i_p_o1 a b o s w ht h3 hab h0
    · exact i_p_o2 a b o s w ht h3 hab h0
  by_cases h4 : s.toList = [113]
  · rcases (show o = 0 ∨ o = 1 ∨ o = 2 by omega) with h0 | h0 | h0
    · exact i_q_o0 a b o s w ht h4 hab h0
    · exact i_q_o1 a b o s w ht h4 hab h0
    · exact i_q_o2 a b o s w ht h4 hab h0
  exact i_else a b o s w ht h1 h2 h3 h4
end Go.Proofs.Ytejggpejmooegaa
