/-
  Contracts of TokenCarry, the program's and the reference's.
-/
import Derived.Test.YtejggpejmooegaaTok3
import Derived.Test.YtejggpejmooegaaTok5
import Derived.Test.YtejggpejmooegaaTok7
namespace Go.Proofs.Ytejggpejmooegaa
open Go.RowKit

theorem iTokVv (a b o : Int) (v : Bool) (h : tokV a b o = v) (w : World) :
    Calls Try.prog 21 #[.agg #[.int .i64 a, .int .i64 b, .int .i64 o]] w fun e w' => e = .returned (.bool v) ∧ Below w.heap.size w w' := by
  subst h; exact iTokV a b o w
theorem sTokVv (a b o : Int) (v : Bool) (h : tokV a b o = v) (w : World) :
    Calls Try.prog 58 #[.agg #[.int .i64 a, .int .i64 b, .int .i64 o]] w fun e w' => e = .returned (.bool v) ∧ Below w.heap.size w w' := by
  subst h; exact sTokV a b o w
/-- TokenCarry. -/
def carryO (a b o : Int) (l : List UInt8) : Option Int :=
  if (tokV a b o = true ∧ o = 0) ∧ dirsV l = true then
    (if a + b < needA l + needB l then none else if a < needA l then some (needA l - a) else if b < needB l then some (b - needB l) else some 0)
  else none
theorem carryO_v {a b o : Int} {l : List UInt8} (h : tokV a b o = false) : carryO a b o l = none := if_neg (fun x => by rw [h] at x; exact absurd x.1.1 (by simp))
theorem carryO_o {a b o : Int} {l : List UInt8} (h : ¬ o = 0) : carryO a b o l = none := if_neg (fun x => h x.1.2)
theorem carryO_d {a b o : Int} {l : List UInt8} (h : dirsV l = false) : carryO a b o l = none := if_neg (fun x => by rw [h] at x; exact absurd x.2 (by simp))
theorem carryO_yes {a b o : Int} {l : List UInt8} (h : tokV a b o = true) (h2 : o = 0) (h3 : dirsV l = true) : carryO a b o l =
    (if a + b < needA l + needB l then none else if a < needA l then some (needA l - a) else if b < needB l then some (b - needB l) else some 0) := if_pos ⟨⟨h, h2⟩, h3⟩
theorem carry_cases (a b A B : Int) (o : Option Int) (h : o = (if a + b < A + B then none else if a < A then some (A - a) else if b < B then some (b - B) else some 0)) :
    (o = none ∧ a + b < A + B) ∨ (o = some (A - a) ∧ A + B ≤ a + b ∧ a < A) ∨ (o = some (b - B) ∧ A + B ≤ a + b ∧ A ≤ a ∧ b < B) ∨ (o = some 0 ∧ A + B ≤ a + b ∧ A ≤ a ∧ B ≤ b) := by
  by_cases h1 : a + b < A + B
  · rw [if_pos h1] at h; exact .inl ⟨h, h1⟩
  rw [if_neg h1] at h
  by_cases h2 : a < A
  · rw [if_pos h2] at h; exact .inr (.inl ⟨h, by omega, h2⟩)
  rw [if_neg h2] at h
  by_cases h3 : b < B
  · rw [if_pos h3] at h; exact .inr (.inr (.inl ⟨h, by omega, by omega, h3⟩))
  rw [if_neg h3] at h
  exact .inr (.inr (.inr ⟨h, by omega, by omega, by omega⟩))
theorem dirs_bd {s : ByteArray} (h : dirsV s.data.toList = true) : 0 ≤ needA s.data.toList ∧ needA s.data.toList ≤ 30 ∧ 0 ≤ needB s.data.toList ∧ needB s.data.toList ≤ 30 := by
  have := needs_bounds (l := s.data.toList)
  rw [(needs_yes h).1, (needs_yes h).2] at this
  exact this
set_option maxHeartbeats 1000000 in
theorem sCarry (a b o : Int) (s : ByteArray) (w : World) (hs : s.size ≤ 1048576) :
    Calls Try.prog 51 #[.agg #[.int .i64 a, .int .i64 b, .int .i64 o], .string s] w fun e w' => e = .returned (.tuple #[.int .i64 (soN (carryO a b o s.data.toList)), .bool (carryO a b o s.data.toList).isSome]) ∧ Below w.heap.size w w' := by
  cases ht : tokV a b o
  · have hn := hide (carryO_v (l := s.data.toList) ht)
    have hT := Lib.hid ht
    clear ht
    go_enter Try.func51, Try.ntmps51
    go_wp2_with (go_at_call 58; refine (sTokVv _ _ _ _ hT.out _).mono ?_; rintro e w1 ⟨rfl, hn⟩; have hb : Below w.heap.size w w1 := bl (by go_grown) (Nat.le_refl _) hn; obtain ⟨hc, hf⟩ := bcell hn; have hz : w.heap.size < w1.heap.size := (by have hsz := hn.size; (try simp at hsz); omega); clear hn)
    go_ret2
    exact ⟨ret_intb (by rw [hn.out]; rfl) (by rw [hn.out]; rfl), by go_grown⟩
  have hbd := tokV_iff.1 ht
  have hT := Lib.hid ht
  clear ht
  obtain ⟨b1, b2, b3, b4, b5, b6, b7, b8⟩ := hbd
  by_cases ho : o = 0
  rotate_left
  · have hn := hide (carryO_o (a := a) (b := b) (l := s.data.toList) ho)
    have hq : (o != 0) = true := by simpa using ho
    clear ho b7
    go_enter Try.func51, Try.ntmps51
    go_wp2_with (go_at_call 58; refine (sTokVv _ _ _ _ hT.out _).mono ?_; rintro e w1 ⟨rfl, hn⟩; have hb : Below w.heap.size w w1 := bl (by go_grown) (Nat.le_refl _) hn; obtain ⟨hc, hf⟩ := bcell hn; have hz : w.heap.size < w1.heap.size := (by have hsz := hn.size; (try simp at hsz); omega); clear hn)
    go_ret2
    exact ⟨ret_intb (by rw [hn.out]; rfl) (by rw [hn.out]; rfl), by go_grown⟩
  cases hv : dirsV s.data.toList
  · have hn := hide (carryO_d (a := a) (b := b) (o := o) hv)
    have hV := Lib.hid hv
    clear hv
    subst ho
    go_enter Try.func51, Try.ntmps51
    go_wp2_with (first
      | (go_at_call 58; refine (sTokVv _ _ _ _ hT.out _).mono ?_; rintro e w1 ⟨rfl, hn⟩; have hb : Below w.heap.size w w1 := bl (by go_grown) (Nat.le_refl _) hn; obtain ⟨hc, hf⟩ := bcell hn; have hz : w.heap.size < w1.heap.size := (by have hsz := hn.size; (try simp at hsz); omega); clear hn)
      | (go_at_call 55; refine (sDirsV _ _ hs).mono ?_; rintro e w' ⟨rfl, rfl⟩; rw [hV.out]))
    go_ret2
    exact ⟨ret_intb (by rw [hn.out]; rfl) (by rw [hn.out]; rfl), by go_grown⟩
  have hv0 := hv
  have hV := Lib.hid hv
  clear hv
  subst ho
  have hn0 := carryO_yes hT.out rfl hv0
  have hbd := dirs_bd hv0
  skip
  generalize hA0 : needA s.data.toList = A at *
  generalize hB0 : needB s.data.toList = B at *
  have hA := Lib.hid hA0
  have hB := Lib.hid hB0
  have hcs := carry_cases _ _ _ _ _ hn0
  clear hn0 hv0 hA0 hB0
  rcases hcs with ⟨h, q1⟩ | ⟨h, q1, q2⟩ | ⟨h, q1, q2, q3⟩ | ⟨h, q1, q2, q3⟩
  all_goals
    have hn := Lib.hid h
    clear h b7
    go_enter Try.func51, Try.ntmps51
    go_wp2_with (first
      | (go_at_call 58; refine (sTokVv _ _ _ _ hT.out _).mono ?_; rintro e w1 ⟨rfl, hn⟩; have hb : Below w.heap.size w w1 := bl (by go_grown) (Nat.le_refl _) hn; obtain ⟨hc, hf⟩ := bcell hn; have hz : w.heap.size < w1.heap.size := (by have hsz := hn.size; (try simp at hsz); omega); clear hn)
      | (go_at_call 55; refine (sDirsV _ _ hs).mono ?_; rintro e w' ⟨rfl, rfl⟩; rw [hV.out])
      | (go_at_call 60; refine (sNeeds _ _ hs).mono ?_; rintro e w' ⟨rfl, rfl⟩; rw [hA.out, hB.out]))
    go_ret2
    exact ⟨ret_intb (by rw [hn.out]; simp only [soN, Option.getD_none, Option.getD_some]; first | done | rfl | omega | (repeat' split) <;> omega) (by rw [hn.out]; rfl), by go_grown⟩
set_option maxHeartbeats 1000000 in
theorem iCarry (a b o : Int) (s : ByteArray) (w : World) (hs : s.size ≤ 1048576) :
    Calls Try.prog 50 #[.agg #[.int .i64 a, .int .i64 b, .int .i64 o], .string s] w fun e w' => e = .returned (.tuple #[.int .i64 (soN (carryO a b o s.data.toList)), .bool (carryO a b o s.data.toList).isSome]) ∧ Below w.heap.size w w' := by
  cases hv : dirsV s.data.toList
  · have hn := hide (carryO_d (a := a) (b := b) (o := o) hv)
    have hV := Lib.hid hv
    clear hv
    skip
    go_enter Try.func50, Try.ntmps50
    go_wp2_with (go_at_call 27; refine (iTokNeeds _ _ hs).mono ?_; rintro e w' ⟨rfl, rfl⟩; rw [hV.out])
    go_ret2
    exact ⟨ret_intb (by rw [hn.out]; rfl) (by rw [hn.out]; rfl), by go_grown⟩
  have hv0 := hv
  have hV := Lib.hid hv
  clear hv
  cases ht : tokV a b o
  · have hn := hide (carryO_v (l := s.data.toList) ht)
    have hT := Lib.hid ht
    clear ht
    go_enter Try.func50, Try.ntmps50
    go_wp2_with (first
      | (go_at_call 21; refine (iTokVv _ _ _ _ hT.out _).mono ?_; rintro e w1 ⟨rfl, hn⟩; have hb : Below w.heap.size w w1 := bl (by go_grown) (Nat.le_refl _) hn; obtain ⟨hc, hf⟩ := bcell hn; have hz : w.heap.size < w1.heap.size := (by have hsz := hn.size; (try simp at hsz); omega); clear hn)
      | (go_at_call 27; refine (iTokNeeds _ _ hs).mono ?_; rintro e w' ⟨rfl, rfl⟩; rw [hV.out]))
    go_ret2
    exact ⟨ret_intb (by rw [hn.out]; rfl) (by rw [hn.out]; rfl), by go_grown⟩
  have hbd := tokV_iff.1 ht
  have hT := Lib.hid ht
  clear ht
  obtain ⟨b1, b2, b3, b4, b5, b6, b7, b8⟩ := hbd
  by_cases ho : o = 0
  rotate_left
  · have hn := hide (carryO_o (a := a) (b := b) (l := s.data.toList) ho)
    have hq : (o != 0) = true := by simpa using ho
    clear ho b7
    go_enter Try.func50, Try.ntmps50
    go_wp2_with (first
      | (go_at_call 21; refine (iTokVv _ _ _ _ hT.out _).mono ?_; rintro e w1 ⟨rfl, hn⟩; have hb : Below w.heap.size w w1 := bl (by go_grown) (Nat.le_refl _) hn; obtain ⟨hc, hf⟩ := bcell hn; have hz : w.heap.size < w1.heap.size := (by have hsz := hn.size; (try simp at hsz); omega); clear hn)
      | (go_at_call 27; refine (iTokNeeds _ _ hs).mono ?_; rintro e w' ⟨rfl, rfl⟩; rw [hV.out]))
    go_ret2
    exact ⟨ret_intb (by rw [hn.out]; rfl) (by rw [hn.out]; rfl), by go_grown⟩
  subst ho
  have hn0 := carryO_yes hT.out rfl hv0
  have hbd := dirs_bd hv0
  have hnd := needs_yes hv0
  generalize hA0 : needA s.data.toList = A at *
  generalize hB0 : needB s.data.toList = B at *
  have hA := Lib.hid hnd.1
  have hB := Lib.hid hnd.2
  have hcs := carry_cases _ _ _ _ _ hn0
  clear hn0 hv0 hA0 hB0 hnd
  rcases hcs with ⟨h, q1⟩ | ⟨h, q1, q2⟩ | ⟨h, q1, q2, q3⟩ | ⟨h, q1, q2, q3⟩
  all_goals
    have hn := Lib.hid h
    clear h b7
    go_enter Try.func50, Try.ntmps50
    go_wp2_with (first
      | (go_at_call 21; refine (iTokVv _ _ _ _ hT.out _).mono ?_; rintro e w1 ⟨rfl, hn⟩; have hb : Below w.heap.size w w1 := bl (by go_grown) (Nat.le_refl _) hn; obtain ⟨hc, hf⟩ := bcell hn; have hz : w.heap.size < w1.heap.size := (by have hsz := hn.size; (try simp at hsz); omega); clear hn)
      | (go_at_call 27; refine (iTokNeeds _ _ hs).mono ?_; rintro e w' ⟨rfl, rfl⟩; rw [hV.out, hA.out, hB.out]))
    go_ret2
    exact ⟨ret_intb (by rw [hn.out]; simp only [soN, Option.getD_none, Option.getD_some]; first | done | rfl | omega | (repeat' split) <;> omega) (by rw [hn.out]; rfl), by go_grown⟩
end Go.Proofs.Ytejggpejmooegaa
