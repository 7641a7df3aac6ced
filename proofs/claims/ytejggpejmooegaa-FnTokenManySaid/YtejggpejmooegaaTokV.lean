/-
  Contracts of TokenRun, the program's.
-/
import Derived.Test.YtejggpejmooegaaTokR
namespace Go.Proofs.Ytejggpejmooegaa
open Go.RowKit

theorem cut_one (s : ByteArray) (k : Nat) (h : k < s.size) : (s.extract k (k + 1)).data.toList = [s[k]] := by
  have h2 : k < s.data.toList.length := by simpa using h
  simp only [ByteArray.data_extract, Array.toList_extract, List.extract_eq_take_drop]
  rw [Nat.add_sub_cancel_left, drop_at s k h]; rfl
theorem one_cut (x y z : Int) (s : ByteArray) (k : Nat) (h : k < s.size) (hv : tokV x y z = true) : stepS x y z (s.extract k (k + 1)).data.toList = stepO x y z s[k] := by
  unfold stepS; rw [if_pos hv, cut_one s k h]
theorem iStep_no (a b o : Int) (s : ByteArray) (w : World) (e0 : stepS a b o s.data.toList = none) :
    Calls Try.prog 19 #[.agg #[.int .i64 a, .int .i64 b, .int .i64 o], .string s] w fun e w' => e = .returned (.tuple #[.agg #[.int .i64 0, .int .i64 0, .int .i64 0], .bool false]) ∧ Below w.heap.size w w' :=
  (iTokStep a b o s w).mono fun _ _ ⟨he, hw⟩ => ⟨by rw [he, e0]; rfl, hw⟩
theorem iStep_yes (a b o x y z : Int) (s : ByteArray) (w : World) (e0 : stepS a b o s.data.toList = some (x, y, z)) :
    Calls Try.prog 19 #[.agg #[.int .i64 a, .int .i64 b, .int .i64 o], .string s] w fun e w' => e = .returned (.tuple #[.agg #[.int .i64 x, .int .i64 y, .int .i64 z], .bool true]) ∧ Below w.heap.size w w' :=
  (iTokStep a b o s w).mono fun _ _ ⟨he, hw⟩ => ⟨by rw [he, e0]; rfl, hw⟩
set_option maxHeartbeats 1000000 in
theorem iTokRun (a b o : Int) (s : ByteArray) (w : World) (_hs : s.size ≤ 1048576) :
    Calls Try.prog 37 #[.agg #[.int .i64 a, .int .i64 b, .int .i64 o], .string s] w fun e w' => e = .returned (.tuple #[.agg #[.int .i64 (tkA (runS a b o s.data.toList)), .int .i64 (tkB (runS a b o s.data.toList)), .int .i64 (tkO (runS a b o s.data.toList))], .bool (runS a b o s.data.toList).isSome]) ∧ Below w.heap.size w w' := by
  cases ht : tokV a b o
  · have hn := hide (runS_v (l := s.data.toList) ht)
    have hT := Lib.hid ht
    clear ht
    go_enter Try.func37, Try.ntmps37
    go_wp2_with (go_at_call 21; refine (iTokVv _ _ _ _ hT.out _).mono ?_; rintro e w1 ⟨rfl, hn⟩; have hb : Below w.heap.size w w1 := bl (by go_grown) (Nat.le_refl _) hn; obtain ⟨hc, hf⟩ := bcell hn; (try simp only [World.size_drew, World.cell?_drew, World.frozen?_drew] at hc hf); have hz : w.heap.size < w1.heap.size := (by have hsz := hn.size; (try simp at hsz); omega); (try (have hz1 : w.heap.size + 1 < w1.heap.size := (by have hsz := hn.size; (try simp at hsz); omega))); clear hn)
    refine bodyPost_ret (by simp [results, Try.results37, go_sem, *]; rfl) rfl ?_
    exact ⟨ret_tk (by rw [hn.out]; rfl) (by rw [hn.out]; rfl), by go_grown⟩
  by_cases hL : 30 < s.size
  · have hn := hide (runS_len (a := a) (b := b) (o := o) hL)
    have hd : decide ((30 : Int) < (s.size : Int)) = true := by simp; omega
    have hT := Lib.hid ht
    clear ht
    go_enter Try.func37, Try.ntmps37
    go_wp2_with (go_at_call 21; refine (iTokVv _ _ _ _ hT.out _).mono ?_; rintro e w1 ⟨rfl, hn⟩; have hb : Below w.heap.size w w1 := bl (by go_grown) (Nat.le_refl _) hn; obtain ⟨hc, hf⟩ := bcell hn; (try simp only [World.size_drew, World.cell?_drew, World.frozen?_drew] at hc hf); have hz : w.heap.size < w1.heap.size := (by have hsz := hn.size; (try simp at hsz); omega); (try (have hz1 : w.heap.size + 1 < w1.heap.size := (by have hsz := hn.size; (try simp at hsz); omega))); clear hn)
    refine bodyPost_ret (by simp [results, Try.results37, go_sem, *]; rfl) rfl ?_
    exact ⟨ret_tk (by rw [hn.out]; rfl) (by rw [hn.out]; rfl), by go_grown⟩
  have hd : decide ((30 : Int) < (s.size : Int)) = false := by simp; omega
  have hL' : s.size ≤ 30 := by omega
  have hn := hide (runS_go ht hL')
  have hT := Lib.hid ht
  clear ht hL
  go_enter Try.func37, Try.ntmps37
  go_wp2_with (go_at_call 21; refine (iTokVv _ _ _ _ hT.out _).mono ?_; rintro e w1 ⟨rfl, hn1⟩)
  have hb1 : Below w.heap.size w w1 := bl (by go_grown) (Nat.le_refl _) hn1
  have bt : Bx w1 w.heap.size [.int .i64 a, .int .i64 b, .int .i64 o] := Bx.call (by
    have h := Bx.new w [.int .i64 a, .int .i64 b, .int .i64 o] 27
    exact h.alloc _) hn1
  have br : Bx w1 (w.heap.size + 1) [.int .i64 0, .int .i64 0, .int .i64 0] := Bx.call (by
    have h := Bx.new (w.alloc (.cells #[.int .i64 a, .int .i64 b, .int .i64 o] 27)) [.int .i64 0, .int .i64 0, .int .i64 0] 27
    simpa using h) hn1
  clear hn1
  go_loopw [20] (fun i wr => ∃ (k : Nat) (x y z : Int), k ≤ s.size ∧ i = .int .i64 k ∧ Bx wr w.heap.size [.int .i64 x, .int .i64 y, .int .i64 z] ∧ Bx wr (w.heap.size + 1) [.int .i64 0, .int .i64 0, .int .i64 0] ∧ Below w.heap.size w wr ∧ Hid (tokV x y z = true) ∧ Hid (runGo a b o s.data.toList = runGo x y z (s.data.toList.drop k))) (fun i _ => s.size - (intOf i).toNat)
  case atStart => exact ⟨0, a, b, o, Nat.zero_le _, rfl, bt, br, hb1, hT, by simp [Hid]⟩
  case round =>
    obtain ⟨k, x, y, z, hk, rfl, bt, br, hb, hV, hG⟩ := hrel
    obtain ⟨⟨t0, t1, t2⟩, tf0, tf1, tf2⟩ := bt.three
    obtain ⟨⟨r0, r1, r2⟩, rf0, rf1, rf2⟩ := br.three
    have hlt1 := bt.lt
    have hlt2 := br.lt
    have hAB : w.heap.size + 1 ≠ w.heap.size := by omega
    by_cases hlt : k < s.size
    · have hk0 : (0 : Int) ≤ (k : Int) := by omega
      have hk2 : (k : Int) + 1 ≤ (s.size : Int) := by omega
      have hk3 : (0 : Int) ≤ (k : Int) + 1 := by omega
      have hk4 : (k : Int) ≤ (k : Int) + 1 := by omega
      have hk1 : (k : Int) < (s.size : Int) := by omega
      cases hst : stepO x y z s[k] with
      | none =>
        have hfin := hide (hG.out.trans (run_no x y z s k hlt hst))
        have hS := Lib.hid ((one_cut x y z s k hlt hV.out).trans hst)
        clear hst hG
        go_wp2
        have hw1 : IntKind.i64.wrap ((k : Int) + 1) = (k : Int) + 1 := IntWalk.i64_in _ (by omega)
        have hw2 : ((k : Int) + 1).toNat = k + 1 := by omega
        go_region_held3 (fun W => W.cell? ⟨w.heap.size, 0, none⟩ = some (.int .i64 x) ∧ W.cell? ⟨w.heap.size, 1, none⟩ = some (.int .i64 y) ∧ W.cell? ⟨w.heap.size, 2, none⟩ = some (.int .i64 z)) (first | go_keep | exact ⟨(Bx.other3 bt1 (Nat.ne_of_lt hlt1) _ _ _).cell (i := 0) (by simp), (Bx.other3 bt1 (Nat.ne_of_lt hlt1) _ _ _).cell (i := 1) (by simp), (Bx.other3 bt1 (Nat.ne_of_lt hlt1) _ _ _).cell (i := 2) (by simp)⟩)
          (first | (go_at_call 19; refine (iStep_no _ _ _ _ _ hS.out).mono ?_; rintro e w1 ⟨rfl, hn1⟩; clear hw1 hw2; have bt1 : Bx w1 w.heap.size [.int .i64 x, .int .i64 y, .int .i64 z] := Bx.call (by first | exact bt | exact bt.alloc _) hn1; have br1 : Bx w1 (w.heap.size + 1) [.int .i64 0, .int .i64 0, .int .i64 0] := Bx.call (by first | exact br | exact br.alloc _) hn1; obtain ⟨⟨a0, a1, a2⟩, af0, af1, af2⟩ := bt1.three; obtain ⟨⟨c0, c1, c2⟩, cf0, cf1, cf2⟩ := br1.three; have hl1 := bt1.lt; have hl2 := br1.lt; have hb1 : Below w.heap.size w w1 := bl (by go_grown) (by first | omega | (simp; omega)) hn1; obtain ⟨hc, hf⟩ := bcell hn1; (try simp only [World.size_drew, World.cell?_drew, World.frozen?_drew] at hc hf); have hsz := hn1.size; (try simp at hsz); have hsz2 : wr.heap.size ≤ w1.heap.size := (by omega); clear hn1))
        all_goals
          go_wp2
          refine bodyPost_ret (by simp [results, Try.results37, go_sem, *]; rfl) rfl ?_
          exact ⟨ret_tk (by rw [hn.out, hfin.out]; rfl) (by rw [hn.out, hfin.out]; rfl), by go_grown⟩
      | some u =>
        obtain ⟨x1, y1, z1⟩ := u
        have hfin := hide (hG.out.trans (run_yes x y z x1 y1 z1 s k hlt hst))
        have hV1 := hide (stepO_valid hV.out hst)
        have hS := Lib.hid ((one_cut x y z s k hlt hV.out).trans hst)
        clear hst hG
        go_wp2
        have hw1 : IntKind.i64.wrap ((k : Int) + 1) = (k : Int) + 1 := IntWalk.i64_in _ (by omega)
        have hw2 : ((k : Int) + 1).toNat = k + 1 := by omega
        go_region_held3 (fun W => W.cell? ⟨w.heap.size, 0, none⟩ = some (.int .i64 x) ∧ W.cell? ⟨w.heap.size, 1, none⟩ = some (.int .i64 y) ∧ W.cell? ⟨w.heap.size, 2, none⟩ = some (.int .i64 z)) (first | go_keep | exact ⟨(Bx.other3 bt1 (Nat.ne_of_lt hlt1) _ _ _).cell (i := 0) (by simp), (Bx.other3 bt1 (Nat.ne_of_lt hlt1) _ _ _).cell (i := 1) (by simp), (Bx.other3 bt1 (Nat.ne_of_lt hlt1) _ _ _).cell (i := 2) (by simp)⟩)
          (first | (go_at_call 19; refine (iStep_yes _ _ _ _ _ _ _ _ hS.out).mono ?_; rintro e w1 ⟨rfl, hn1⟩; clear hw1 hw2; have bt1 : Bx w1 w.heap.size [.int .i64 x, .int .i64 y, .int .i64 z] := Bx.call (by first | exact bt | exact bt.alloc _) hn1; have br1 : Bx w1 (w.heap.size + 1) [.int .i64 0, .int .i64 0, .int .i64 0] := Bx.call (by first | exact br | exact br.alloc _) hn1; obtain ⟨⟨a0, a1, a2⟩, af0, af1, af2⟩ := bt1.three; obtain ⟨⟨c0, c1, c2⟩, cf0, cf1, cf2⟩ := br1.three; have hl1 := bt1.lt; have hl2 := br1.lt; have hb1 : Below w.heap.size w w1 := bl (by go_grown) (by first | omega | (simp; omega)) hn1; obtain ⟨hc, hf⟩ := bcell hn1; (try simp only [World.size_drew, World.cell?_drew, World.frozen?_drew] at hc hf); have hsz := hn1.size; (try simp at hsz); have hsz2 : wr.heap.size ≤ w1.heap.size := (by omega); clear hn1))
        all_goals
          go_wp2
          go_roundw
          case rel =>
            refine ⟨k + 1, x1, y1, z1, by omega, by go_num, ?_, ?_, by go_grown, hV1, hfin⟩
            · first | (with_reducible refine Bx.set3 (Bx.other3 bt1 (Nat.ne_of_lt hlt1) _ _ _)) | (with_reducible refine Bx.alloc (Bx.set3 bt1) _)
            · first | (with_reducible refine Bx.other3 (Bx.other3 br1 (Nat.ne_of_lt hlt2) _ _ _) hAB _ _ _) | (with_reducible refine Bx.alloc (Bx.other3 br1 hAB _ _ _) _)
          case measure => simp [intOf]; omega
    · obtain rfl : k = s.size := by omega
      have hfin := hide (hG.out.trans (run_end x y z s))
      clear hG
      go_wp2
      refine bodyPost_ret (by simp [results, Try.results37, go_sem, *]; rfl) rfl ?_
      exact ⟨ret_tk (by rw [hn.out, hfin.out]; rfl) (by rw [hn.out, hfin.out]; rfl), by go_grown⟩
end Go.Proofs.Ytejggpejmooegaa
