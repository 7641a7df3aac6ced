/-
  Contracts of beatsOf, codeOf.
-/
import Derived.Test.YtanfhgliilkhjaaBkM
import Derived.Test.YtanfhgliilkhjaaPathI
namespace Go.Proofs.Ytanfhgliilkhjaa
open Go.RowKit Go.Deep
set_option linter.unusedVariables false

theorem u8Info : (Try.prog.info? 5).map (fun i => (i.zero, i.size, i.bytes)) = some (some (.int .u8 0), 1, 1) := by kernel_rfl
/-- What beatsOf and codeOf hand back. -/
def TxtRes (w : World) (P : Prop) (n : Nat) (f : Nat → Int) (e : Ending) (w' : World) : Prop :=
  ((P ∧ e = .returned (.tuple #[.string (txt n f), .bool true])) ∨ (¬ P ∧ e = .returned (.tuple #[.string ⟨#[]⟩, .bool false]))) ∧ Below w.heap.size w w'
set_option maxRecDepth 100000 in
set_option maxHeartbeats 2000000 in
theorem iBeats (A : Option Addr) (n c : Nat) (f : Nat → Int) (most : Nat) (w : World) (h : Rn w w.heap.size A n f) (hn : n ≤ 1048576) (hm : most ≤ 1048576) :
    Calls Try.prog 64 #[.slice A n c, .int .i64 (most : Int)] w (TxtRes w (n ≤ most ∧ grpV n f) n f) := by
  obtain ⟨i0, ji0, jz0, jz1, jz2⟩ := info_parts u8Info
  by_cases hnm : n ≤ most
  rotate_left
  · have d0 : most < n := by omega
    have hno : Hid (¬ (n ≤ most ∧ grpV n f)) := fun x => hnm x.1
    clear hnm ji0 jz0 jz1 jz2
    go_enter Try.func64, Try.ntmps64
    go_wp2
    go_ret2
    exact ⟨.inr ⟨hno, rfl⟩, Below.refl _ _⟩
  have d0 : ¬ most < n := by omega
  have PI := Lib.hid (And.intro ji0 (And.intro jz0 (And.intro jz1 jz2)))
  have H := Lib.hid h
  have W0 := Lib.hid (World.ownsRow_made (base := w.heap.size) (size := 1) (e := 5) w (madeCells (Value.int .u8 0).cells n) n (Nat.le_refl _) (by unfold maxLen; omega) (by simp [size_madeCells]))
  have hmk := fun W : World => run_make (P := Try.prog) W 40 5 i0 (.int .u8 0) Try.underlying40 ji0 jz0 .i64 .i64 0 n (by omega) (by omega) (by rw [jz2]; omega) (by omega)
  simp only [Int.toNat_natCast, Int.toNat_zero, jz1, Nat.mul_one] at hmk
  clear ji0 jz0 jz1 jz2 h
  go_enter Try.func64, Try.ntmps64
  go_wp2_with fail
  go_loopw [6, 18] (fun v i wr => ∃ (k g cp : Nat), k ≤ n ∧ i = .int .i64 k ∧ v = .slice (some ⟨g, 0, none⟩) k cp ∧ Hid (grpV k f) ∧ Hid (wr.ownsRow w.heap.size 5 1 (.slice (some ⟨g, 0, none⟩) k cp) k (u8s (lst f k))) ∧ Hid (Below w.heap.size w wr)) (fun _ i _ => (n - intOf i).toNat)
  case atStart => exact ⟨0, _, _, Nat.zero_le _, rfl, rfl, fun _ h => absurd h (by omega), W0.out, by show Below _ _ _; go_grown⟩
  case round =>
    clear W0 hmk
    obtain ⟨k, g, cp, hk, rfl, rfl, hG, hO, hb⟩ := hrel
    have hsz := hb.out.size
    have hgl := hO.out.lt g rfl
    have hcp := owns_cap hO.out
    by_cases hlt : k < n
    · obtain ⟨b, off, rfl, hbB, hc⟩ := H.out (by omega)
      have cx := (hb.out.cell (p := ⟨b, off + k, none⟩) hbB).trans (hc k hlt)
      have k0 : (0 : Int) ≤ (k : Int) := by omega
      have k1 : (k : Int) < (n : Int) := by omega
      clear hc
      by_cases hg : 1 ≤ f k ∧ f k ≤ 6
      · have d1 : decide (f k < 1) = false := decide_eq_false (by omega)
        have d2 : decide (6 < f k) = false := decide_eq_false (by omega)
        have hw1 : IntKind.u8.wrap (f k) = f k := IntWalk.u8_in _ (by omega)
        have hG2 : Hid (grpV (k + 1) f) := fun i hi => by
          by_cases e : i = k
          · subst e; exact hg
          · exact hG.out i (by omega)
        have hO3 := Lib.hid (hO.out.alloc (.cells #[.int .u8 (f k)] 5))
        obtain ⟨ji0, jz0, jz1, jz2⟩ := PI.out
        clear hO hG hg
        go_wp2_with (at_builtin; refine wpList_append_lies _ rfl _ _ _ rfl w.heap.size 5 i0 (.int .u8 0) 1 1 Try.underlying40 ji0 jz0 jz1 jz2 rfl (by omega) (.slice (some ⟨g, 0, none⟩) k cp) k _ rfl hO3.out ⟨wr.heap.size, 0, none⟩ 1 1 [.int .u8 (f k)] rfl rfl ?d1 (by simp [Value.oneCell']) (by omega) ?d3 ?d4 ?d5 (wr.heap.size + 1) ?d6 ?_)
        try case d1 => exact World.news_of_block (cs := #[.int .u8 (f k)]) (t := 5) (fr := (0, 0)) (heap_alloc_new wr _)
        case d3 => unfold maxLen; omega
        case d4 => omega
        case d5 => first | omega | (simp; omega)
        try case d6 => simp
        intro g6 k6 w6 hown6 hg6 hat6 hlt6
        have hg6 : (wr.alloc (.cells #[.int .u8 (f k)] 5)).grownBy w6 (some g) := hg6
        have hb6 : Hid (Below w.heap.size w w6) := (show Below w.heap.size w (wr.alloc (.cells #[.int .u8 (f k)] 5)) from hb.out.alloc hsz _).grown hg6 (by simp; omega) (fun k e => by injection e with e; omega)
        rw [u8s_succ] at hown6
        have HO6 := Lib.hid hown6
        clear hown6 hg6 hb hO3 ji0 jz0 jz1 jz2 hat6 hlt6 cx
        go_wp2_with fail
        go_roundw
        case rel => exact ⟨k + 1, g6, k6, by omega, by go_num, rfl, hG2, HO6, hb6⟩
        case measure => simp [intOf]; omega
      · have hno : Hid (¬ (n ≤ most ∧ grpV n f)) := fun x => hg (x.2 k hlt)
        have HB := Lib.hid hb.out
        by_cases hg1 : f k < 1
        · have d1 : decide (f k < 1) = true := decide_eq_true (by omega)
          clear hg hg1 hO hG hb
          go_wp2
          go_ret2
          exact ⟨.inr ⟨hno, rfl⟩, HB.out⟩
        · have d1 : decide (f k < 1) = false := decide_eq_false (by omega)
          have d2 : decide (6 < f k) = true := decide_eq_true (by omega)
          clear hg hg1 hO hG hb
          go_wp2
          go_ret2
          exact ⟨.inr ⟨hno, rfl⟩, HB.out⟩
    · obtain rfl : k = n := by omega
      have hyes : Hid (k ≤ most ∧ grpV k f) := ⟨by omega, hG.out⟩
      have hcv := run_convert_bytes_arg (P := Try.prog) wr 40 5 Try.underlying40 Try.underlying5 g 0 k cp (lst f k) (lst_len f k) (fun i hi => by
        have := hO.out.cells (g := g) rfl i _ (u8s_at hi)
        rw [add_at] at this
        rw [this, lst_get hi]) 66 Try.underlying66
      have hcv : (convert 40 66 (.slice (some ⟨g, 0, none⟩) k cp)).run Try.prog wr = .ok (.string (txt k f)) wr := hcv
      have HB := Lib.hid hb.out
      clear hO hG hb
      go_wp2
      go_ret2
      exact ⟨.inl ⟨hyes, rfl⟩, HB.out⟩
set_option maxHeartbeats 1000000 in
theorem iCode (A : Option Addr) (n c : Nat) (f : Nat → Int) (w : World) (h : Rn w w.heap.size A n f) (hn : n ≤ 1048576) :
    Calls Try.prog 74 #[.slice A n c] w (TxtRes w (codeV ⟨n, f⟩) n f) := by
  by_cases h0 : n = 0
  · have d0 : ((n : Int) == 0) = true := beq_iff_eq.2 (by omega)
    have hno : Hid (¬ codeV ⟨n, f⟩) := fun x => by have := x.1.1; simp at this; omega
    go_enter Try.func74, Try.ntmps74
    go_wp2
    go_ret2
    exact ⟨.inr ⟨hno, rfl⟩, Below.refl _ _⟩
  · have d0 : ((n : Int) == 0) = false := beq_eq_false_iff_ne.2 (by omega)
    have hn0 : Hid (0 < n) := show 0 < n by omega
    have H := Lib.hid (iBeats A n c f 5 w h hn (by omega))
    clear h
    go_enter Try.func74, Try.ntmps74
    go_wp2_with fail
    refine H.out.mono ?_
    rintro e w1 ⟨⟨hp, rfl⟩ | ⟨hp, rfl⟩, hb⟩
    · have HY : Hid (codeV ⟨n, f⟩) := ⟨⟨hn0.out, hp.1⟩, hp.2⟩
      have HB := Lib.hid hb
      clear hp hb
      go_wp2
      go_ret2
      exact ⟨.inl ⟨HY, rfl⟩, HB.out⟩
    · have HY : Hid (¬ codeV ⟨n, f⟩) := fun x => hp ⟨x.1.2, x.2⟩
      have HB := Lib.hid hb
      clear hp hb
      go_wp2
      go_ret2
      exact ⟨.inr ⟨HY, rfl⟩, HB.out⟩
end Go.Proofs.Ytanfhgliilkhjaa
