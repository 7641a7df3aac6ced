/-
  Contract of bookOf.
-/
import Derived.Test.YtanfhgliilkhjaaBkB
namespace Go.Proofs.Ytanfhgliilkhjaa
open Go.RowKit Go.Deep
set_option linter.unusedVariables false

/-- The slice (A, m) reads as the texts of the codes D. -/
def StRn (w : World) (B : Nat) (A : Option Addr) (m : Nat) (D : Nat → LD) : Prop := 0 < m → ∃ b, A = some ⟨b, 0, none⟩ ∧ b < B ∧ ∀ i, i < m → w.cell? ⟨b, i, none⟩ = some (.string (txt (D i).n (D i).f))
/-- What bookOf hands back. -/
def BookRes (w : World) (m : Nat) (D : Nat → LD) (e : Ending) (w' : World) : Prop :=
  ((bookV D m ∧ ∃ A c, e = .returned (.tuple #[.slice A m c, .bool true]) ∧ StRn w' w'.heap.size A m D) ∨ (¬ bookV D m ∧ e = .returned (.tuple #[.slice none 0 0, .bool false]))) ∧ Below w.heap.size w w'
theorem beatsInfo : (Try.prog.info? 66).map (fun i => (i.zero, i.size, i.bytes)) = some (some (.string ⟨#[]⟩), 1, 16) := by kernel_rfl
set_option maxRecDepth 100000 in
set_option maxHeartbeats 4000000 in
theorem iBook (A : Option Addr) (m c : Nat) (D : Nat → LD) (w : World) (h : SsRn w w.heap.size A m D) (hm : m ≤ 1048576) (hD : ∀ i, i < m → (D i).n ≤ 1048576) :
    Calls Try.prog 54 #[.slice A m c] w (BookRes w m D) := by
  obtain ⟨i0, ji0, jz0, jz1, jz2⟩ := info_parts beatsInfo
  by_cases hm10 : m ≤ 10
  rotate_left
  · have d0 : 10 < m := by omega
    have d1 : decide ((10 : Int) < (m : Int)) = true := decide_eq_true (by omega)
    have hno : Hid (¬ bookV D m) := fun x => hm10 x.1
    clear hm10 ji0 jz0 jz1 jz2
    go_enter Try.func54, Try.ntmps54
    go_wp2
    go_ret2
    exact ⟨.inr ⟨hno, rfl⟩, Below.refl _ _⟩
  have d0 : ¬ 10 < m := by omega
  have d1 : decide ((10 : Int) < (m : Int)) = false := decide_eq_false (by omega)
  have PI := Lib.hid (And.intro ji0 (And.intro jz0 (And.intro jz1 jz2)))
  have H := Lib.hid h
  have HD := Lib.hid hD
  have W0 := Lib.hid (World.ownsRow_made (base := w.heap.size) (size := 1) (e := 66) w (madeCells (Value.string ⟨#[]⟩).cells m) m (Nat.le_refl _) (by unfold maxLen; omega) (by simp [size_madeCells]))
  have hmk := fun W : World => run_make (P := Try.prog) W 63 66 i0 (.string ⟨#[]⟩) Try.underlying63 ji0 jz0 .i64 .i64 0 m (by omega) (by omega) (by rw [jz2]; omega) (by omega)
  simp only [Int.toNat_natCast, Int.toNat_zero, jz1, Nat.mul_one] at hmk
  clear ji0 jz0 jz1 jz2 h hD
  go_enter Try.func54, Try.ntmps54
  go_wp2_with fail
  go_loopw [4, 19] (fun v i wr => ∃ (k g cp : Nat), k ≤ m ∧ i = .int .i64 k ∧ v = .slice (some ⟨g, 0, none⟩) k cp ∧ Hid (bookF D k) ∧ Hid (wr.ownsRow w.heap.size 66 1 (.slice (some ⟨g, 0, none⟩) k cp) k (strs D k)) ∧ Hid (Below w.heap.size w wr)) (fun _ i _ => (m - intOf i).toNat)
  case atStart => exact ⟨0, _, _, Nat.zero_le _, rfl, rfl, bookF_zero D, W0.out, by show Below _ _ _; go_grown⟩
  case round =>
    clear W0 hmk
    obtain ⟨k, g, cp, hk, rfl, rfl, hG, hO, hb⟩ := hrel
    have hsz := hb.out.size
    have hgl := hO.out.lt g rfl
    have hcp := owns_cap hO.out
    by_cases hlt : k < m
    · obtain ⟨b, off, a1, c1, n1, f1, rfl, hbB, hDk, x0, r1⟩ := H.out.at_ hlt
      have x0 := (hb.out.cell (p := ⟨b, off + k, none⟩) hbB).trans x0
      have hn1 : n1 ≤ 1048576 := by have := HD.out k hlt; rw [hDk] at this; exact this
      have R1 := Lib.hid ((r1.below hb.out).up (C := wr.heap.size) hsz)
      have k0 : (0 : Int) ≤ (k : Int) := by omega
      have k1 : (k : Int) < (m : Int) := by omega
      have DK := Lib.hid hDk
      clear r1 hDk
      go_wp2_with fail
      refine (iCode a1 n1 c1 f1 _ R1.out hn1).mono ?_
      rintro e w1 ⟨⟨hp, rfl⟩ | ⟨hp, rfl⟩, hb1⟩
      rotate_left
      · have hno : Hid (¬ bookV D m) := bookF_no1 hlt (by rw [DK.out]; exact hp)
        have HB := Lib.hid (bl hb.out (Nat.le_refl _) hb1)
        clear hp hb hb1 hO hG
        go_wp2
        go_ret2
        exact ⟨.inr ⟨hno, rfl⟩, HB.out⟩
      have HP := Lib.hid hp
      have HB1 := Lib.hid (bl hb.out (Nat.le_refl _) hb1)
      have hO1 := Lib.hid (owns_call hO.out hb1)
      clear hp hb hO x0 R1
      go_wp2_with fail
      go_loopw [32] (fun i wq => ∃ j : Nat, j ≤ k ∧ i = .int .i64 j ∧ Hid (∀ t, t < j → ¬ sameC (D t) (D k)) ∧ Hid (∃ q, wq = w1.drewN q)) (fun i _ => (k - intOf i).toNat)
      case atStart => exact ⟨0, Nat.zero_le _, rfl, fun _ h => absurd h (by omega), 0, rfl⟩
      case round =>
        obtain ⟨j, hj, rfl, hN, hq⟩ := hrel
        have HB1 : Hid (Below w.heap.size w wr) := by obtain ⟨q, rfl⟩ := hq.out; exact below_dn HB1.out q
        have hO1 : Hid (wr.ownsRow w.heap.size 66 1 (.slice (some ⟨g, 0, none⟩) k cp) k (strs D k)) := by obtain ⟨q, rfl⟩ := hq.out; exact hO1.out
        have hQ2 := hq
        by_cases hjk : j < k
        · have cx := hO1.out.cells (g := g) rfl j _ (strs_at hjk)
          rw [add_at, Nat.zero_add] at cx
          have j0 : (0 : Int) ≤ (j : Int) := by omega
          have j1 : (j : Int) < (k : Int) := by omega
          have hq := txt_eq (hG.out j hjk).1.2 HP.out.2
          by_cases hs : sameC (D j) ⟨n1, f1⟩
          · rw [hq.2 hs] at cx
            have hno : Hid (¬ bookV D m) := bookF_no2 hlt hjk (by rw [DK.out]; exact hs)
            clear hq hs hN hO1
            go_wp2
            go_ret2
            exact ⟨.inr ⟨hno, rfl⟩, HB1.out⟩
          · have hne : ¬ txt (D j).n (D j).f = txt n1 f1 := fun e => hs (hq.1 e)
            have hbq := txt_ne hne
            have hN2 : Hid (∀ t, t < j + 1 → ¬ sameC (D t) (D k)) := fun t ht => by
              by_cases e : t = j
              · subst e; rw [DK.out]; exact hs
              · exact hN.out t (by omega)
            clear hq hs hN
            go_wp2
            go_roundw
            case rel => exact ⟨j + 1, by omega, by go_num, hN2, hQ2⟩
            case measure => simp [intOf]; omega
        · obtain rfl : j = k := by omega
          have hG2 : Hid (bookF D (j + 1)) := bookF_step hG.out (by rw [DK.out]; exact HP.out) hN.out
          have hgl1 := hO1.out.lt g rfl
          have hsr := HB1.out.size
          have hO3 := Lib.hid (hO1.out.alloc (.cells #[.string (txt n1 f1)] 66))
          have HX : Hid (strs D j ++ [.string (txt n1 f1)] = strs D (j + 1)) := by
            have := strs_succ D j
            rw [DK.out] at this
            exact this
          obtain ⟨ji0, jz0, jz1, jz2⟩ := PI.out
          clear hO1 hG hN
          go_wp2_with (at_builtin; refine wpList_append_lies _ rfl _ _ _ rfl w.heap.size 66 i0 (.string ⟨#[]⟩) 1 16 Try.underlying63 ji0 jz0 jz1 jz2 rfl (by omega) (.slice (some ⟨g, 0, none⟩) j cp) j _ rfl hO3.out ⟨wr.heap.size, 0, none⟩ 1 1 [.string (txt n1 f1)] rfl rfl ?d1 (by simp [Value.oneCell']) (by omega) ?d3 ?d4 ?d5 (wr.heap.size + 1) ?d6 ?_)
          try case d1 => exact World.news_of_block (cs := #[.string (txt n1 f1)]) (t := 66) (fr := (0, 0)) (heap_alloc_new wr _)
          case d3 => unfold maxLen; omega
          case d4 => omega
          case d5 => first | omega | (simp; omega)
          try case d6 => simp
          intro g6 k6 w6 hown6 hg6 hat6 hlt6
          have hg6 : (wr.alloc (.cells #[.string (txt n1 f1)] 66)).grownBy w6 (some g) := hg6
          have hb6 : Hid (Below w.heap.size w w6) := (show Below w.heap.size w (wr.alloc (.cells #[.string (txt n1 f1)] 66)) from HB1.out.alloc hsr _).grown hg6 (by simp; omega) (fun k e => by injection e with e; omega)
          rw [HX.out] at hown6
          have HO6 := Lib.hid hown6
          clear hown6 hg6 hO3 HX ji0 jz0 jz1 jz2 hat6 hlt6
          go_wp2_with fail
          go_roundw
          case rel => exact ⟨j + 1, g6, k6, by omega, by go_num, rfl, hG2, HO6, hb6⟩
          case measure => simp [intOf]; omega
    · obtain rfl : k = m := by omega
      have hyes : Hid (bookV D k) := ⟨by omega, hG.out⟩
      have HS : Hid (StRn wr wr.heap.size (some ⟨g, 0, none⟩) k D) := fun _ => ⟨g, rfl, hgl.2, fun i hi => by
        have := hO.out.cells (g := g) rfl i _ (strs_at hi)
        rwa [add_at, Nat.zero_add] at this⟩
      have HB := Lib.hid hb.out
      clear hO hG hb
      go_wp2
      go_ret2
      exact ⟨.inl ⟨hyes, _, _, rfl, HS.out⟩, HB.out⟩
end Go.Proofs.Ytanfhgliilkhjaa
