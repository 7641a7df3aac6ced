/-
  Contracts of the reference's PathsAdd.
-/
import Derived.Test.YtjppkcfbhhjniaaPathAd
namespace Go.Proofs.Ytjppkcfbhhjniaa
open Go.RowKit Go.Deep
set_option linter.unusedVariables false

theorem one2 (a1 : Option Addr) (n1 c1 : Nat) (a2 : Option Addr) (n2 c2 : Nat) : ∀ u ∈ [Value.slice a1 n1 c1, .slice a2 n2 c2], u.oneCell' = true := by
  intro u hu
  simp only [List.mem_cons, List.not_mem_nil, or_false] at hu
  rcases hu with rfl | rfl <;> rfl


set_option maxHeartbeats 8000000 in
theorem sAdd_go (A : Option Addr) (m c : Nat) (D : Nat → PD) (R : Option Addr) (r d : Nat) (n frm : Int) (f1 f2 : Nat → Int) (w : World) (h : PsRn w w.heap.size A m D) (hv : pathsV n D m = true) (hr1 : 0 < r ∧ r ≤ 5)
    (hF : Calls Try.prog 43 #[.int .i64 n, .slice A m c, .int .i64 frm, .slice R r d] w (PathRes w true r f1 r f2)) (hfirst : firstV n (addD D m ⟨r, f1, r, f2⟩) (m + 1)) :
    Calls Try.prog 25 #[.int .i64 n, .slice A m c, .int .i64 frm, .slice R r d] w (AddPost w 31 m D ⟨r, f1, r, f2⟩) := by
  obtain ⟨p0, pi0, pz0, pz1, pz2⟩ := info_parts pathInfo
  obtain ⟨i0, ji0, jz0, jz1, jz2⟩ := info_parts intInfo
  have hm8 : m ≤ 8 := (pathsV_iff.1 hv).2.2.1
  have hn5 : 1 ≤ n ∧ n ≤ 5 := ⟨(pathsV_iff.1 hv).1, (pathsV_iff.1 hv).2.1⟩
  have PV := Lib.hid hv
  have P0 := Lib.hid h
  have HF := Lib.hid hF
  have FV := Lib.hid hfirst
  clear hv h hF hfirst
  go_enter Try.func25, Try.ntmps25
  go_wp2_with fail
  refine HF.out.mono ?_
  rintro e w1 ⟨a1, k1, a2, k2, rfl, ⟨b1, b2, hb1, hb2, hne, o1, o2⟩, hn⟩
  have hs := hn.size
  have hb1 := hb1 hr1.1
  have hb2 := hb2 hr1.1
  have hx := Bx.new w1 [.slice a1 r k1, .slice a2 r k2] 31
  have O1 := Lib.hid (o1.alloc (.cells #[.slice a1 r k1, .slice a2 r k2] 31))
  have O2 := Lib.hid (o2.alloc (.cells #[.slice a1 r k1, .slice a2 r k2] 31))
  have hb : Below w.heap.size w (w1.alloc (.cells #[.slice a1 r k1, .slice a2 r k2] 31)) := by go_grown
  clear o1 o2 hn
  go_wp2_with fail
  generalize hW : w1.alloc (.cells #[.slice a1 r k1, .slice a2 r k2] 31) = W at *
  have hWs : w1.heap.size + 1 = W.heap.size := by rw [← hW]; simp
  have hWl : w1.heap.size < W.heap.size := by omega
  rw [hWs] at *
  clear hW hWs
  have X := Lib.hid hx
  clear hx
  go_loopw [12, 13] (fun out i wr => AddR W 31 m (addD D m ⟨r, f1, r, f2⟩) out i wr) (fun _ i _ => m - (intOf i).toNat)
  case atStart => exact addR_start _ _ (by simp) (by omega)
  case round =>
    obtain ⟨j, g, cp, G, xs, hj, rfl, rfl, hp, hown, hbr⟩ := hrel
    have hsr := hbr.size
    have HP := Lib.hid hp
    have HO := Lib.hid hown
    have hcap := owns_cap hown
    clear hp hown
    by_cases hlt : j < m
    · obtain ⟨b, off, e1, c1, e2, c2, n1, h1, n2, h2, rfl, hbB, hD, x0, x1, q1, q2⟩ := (P0.out.below (hb.trans (hbr.mono hb.size))).at_ hlt
      have hat := pathsV_at PV.out hlt
      rw [hD] at hat
      obtain ⟨l1, l2, -⟩ := hat
      simp only at l1 l2
      have hDE := Lib.hid (show addD D m ⟨r, f1, r, f2⟩ j = ⟨n1, h1, n2, h2⟩ from (addD_lt hlt).trans hD)
      have j0 : (0 : Int) ≤ (j : Int) := by omega
      have j1 : (j : Int) < (m : Int) := by omega
      have hbwr : w.heap.size ≤ wr.heap.size := by omega
      have n1p : 0 < n1 := by omega
      have n2p : 0 < n2 := by omega
      have n1q : n1 ≤ 1048576 := by omega
      have n2q : n2 ≤ 1048576 := by omega
      have R1 := Lib.hid (q1.up hbwr)
      have R2 := Lib.hid (q2.up hbwr)
      have hbb : b < wr.heap.size := by omega
      clear hD q1 q2 l1 l2
      go_wp2
      go_region_held3 (fun V => V.cell? ⟨b, off + j * 2, none⟩ = some (.slice e1 n1 c1) ∧ V.cell? ⟨b, off + j * 2 + 1, none⟩ = some (.slice e2 n2 c2)) (go_keep)
        (first
          | ((refine step_fresh (by rfl) _ _ _ (by rfl) 3 i0 Try.underlying27 ji0 jz0 jz1 jz2 _ (by rfl) e1 n1 c1 h1 (by rfl) R1.out (by go_grown) n1p n1q ?_; intro g1 z1 w2 hg1 hg1' o1 hn; have hm2 : Below wr.heap.size wr w2 := bl (by go_grown) (Nat.le_refl _) hn; (try (have o2 := o2.call (bl (show Below w3.heap.size w3 _ by go_grown) (Nat.le_refl _) hn))); (have hs2 := hm2.size); (have y0 := hm2.cell (p := ⟨b, off + j * 2, none⟩) hbb); (have y1 := hm2.cell (p := ⟨b, off + j * 2 + 1, none⟩) hbb); (have hge1 : wr.heap.size ≤ g1 := by (have := hg1; (try simp at this); omega)); (try (have hge12 : g2 < g1 := by (have := hg1; (try simp at this); omega))); clear hn hg1))
          | ((refine step_fresh (by rfl) _ _ _ (by rfl) 3 i0 Try.underlying27 ji0 jz0 jz1 jz2 _ (by rfl) e2 n2 c2 h2 (by rfl) R2.out (by go_grown) n2p n2q ?_; intro g2 z2 w3 hg2 hg2' o2 hn; have hm3 : Below wr.heap.size wr w3 := bl (by go_grown) (Nat.le_refl _) hn; (try (have o1 := o1.call (bl (show Below w2.heap.size w2 _ by go_grown) (Nat.le_refl _) hn))); (have hs3 := hm3.size); (have y2 := hm3.cell (p := ⟨b, off + j * 2, none⟩) hbb); (have y3 := hm3.cell (p := ⟨b, off + j * 2 + 1, none⟩) hbb); (have hge2 : wr.heap.size ≤ g2 := by (have := hg2; (try simp at this); omega)); (try (have hge21 : g1 < g2 := by (have := hg2; (try simp at this); omega))); clear hn hg2))
          | ((refine step_append_lies _ (by rfl) _ _ _ (by rfl) W.heap.size 31 p0 (.agg #[.slice none 0 0, .slice none 0 0]) 2 48 Try.underlying23 pi0 pz0 pz1 pz2 rfl (by omega) (.slice (some ⟨g, 0, none⟩) j cp) j xs (by rfl) (owns_call HO.out (by go_grown)) _ 1 1 [.slice (some ⟨g1, 0, none⟩) n1 z1, .slice (some ⟨g2, 0, none⟩) n2 z2] (by rfl) rfl (World.news_of_block (heap_alloc_new _ _)) (one2 _ _ _ _ _ _) (by omega) (by unfold maxLen; omega) (by omega) (by simp; omega) _ rfl ?_; intro g3 k3 w4 hown3 hg3 hat3 hlt3; have y4 := hg3.cell_far ⟨b, off + j * 2, none⟩ (by simp; omega) (by simp [Value.ownBlock]; omega); have y5 := hg3.cell_far ⟨b, off + j * 2 + 1, none⟩ (by simp; omega) (by simp [Value.ownBlock]; omega))))
      all_goals
        simp only [Value.ownBlock, Option.some.injEq, World.size_alloc] at hat3
        have HH : AddR W 31 m (addD D m ⟨r, f1, r, f2⟩) (.slice (some ⟨g3, 0, none⟩) (j + 1) k3) (.int .i64 ((j : Int) + 1)) w4 := by
          first
            | exact addR_step (w2 := w3) hlt hDE.out (HP.out.call (Nat.le_refl _) hm3) (by omega) (bl hbr (Nat.le_refl _) hm3) ⟨by omega, by omega⟩ ⟨by omega, by omega⟩ (by omega) o1 o2 hown3 hg3 (by omega) hlt3
            | exact addR_step (w2 := w2) hlt hDE.out (HP.out.call (Nat.le_refl _) hm2) (by omega) (bl hbr (Nat.le_refl _) hm2) ⟨by omega, by omega⟩ ⟨by omega, by omega⟩ (by omega) o1 o2 hown3 hg3 (by omega) hlt3
        clear hown3 hg3 hat3 HP HO o1 o2 hbr hm2 hm3 y0 y1 y2 y3 x0 x1
        go_wp2_with fail
        go_roundw
        case rel => exact HH
        case measure => simp [intOf]; omega
    · obtain rfl : j = m := by omega
      have hx := X.out.below hbr hWl
      have c0 := hx.cell (i := 0) (by simp)
      have c1 := hx.cell (i := 1) (by simp)
      simp only [List.getElem_cons_zero, List.getElem_cons_succ] at c0 c1
      have Q1 := Lib.hid (O1.out.call hbr)
      have Q2 := Lib.hid (O2.out.call hbr)
      have hbw := bl hb (Nat.le_refl _) hbr
      clear hx hb
      go_wp2_with (at_builtin; refine wpList_append_lies _ rfl _ _ _ rfl W.heap.size 31 p0 (.agg #[.slice none 0 0, .slice none 0 0]) 2 48 Try.underlying23 pi0 pz0 pz1 pz2 rfl (by omega) (.slice (some ⟨g, 0, none⟩) j cp) j xs rfl (HO.out.alloc _) ⟨wr.heap.size, 0, none⟩ 1 1 [.slice a1 r k1, .slice a2 r k2] rfl rfl ?d1 (one2 _ _ _ _ _ _) (by omega) ?d3 ?d4 ?d5 (wr.heap.size + 1) ?d6 ?_)
      try case d1 => exact World.news_of_block (cs := #[.slice a1 r k1, .slice a2 r k2]) (t := 31) (fr := (0, 0)) (heap_alloc_new wr _)
      case d3 => unfold maxLen; omega
      case d4 => omega
      case d5 => first | omega | (simp; omega)
      try case d6 => simp
      intro g3 k3 w3 hown3 hg3 hat3 hlt3
      have hg3 : (wr.alloc (.cells #[.slice a1 r k1, .slice a2 r k2] 31)).grownBy w3 (some g) := hg3
      have hat3 : g3 = g ∨ g3 = wr.heap.size + 1 := by rcases hat3 with h | h; (simp [Value.ownBlock] at h; exact .inl h.symm); exact .inr h
      have HH := Lib.hid (addR_last (w := w) addD_at HP.out (Nat.le_refl _) hbw (by omega) ⟨by omega, by omega⟩ ⟨by omega, by omega⟩ hne Q1.out Q2.out hown3 hg3 hat3 hlt3)
      have RR := Lib.hid (HH.out.1.rn (Nat.le_refl _))
      have hs3 := HH.out.2.size
      clear hown3 hg3 hat3 HP HO Q1 Q2 hbr hbw c0 c1
      by_cases h8 : j = 8
      · subst h8
        have V := Lib.hid (pathsV_no (n := n) (l := addD D 8 ⟨r, f1, r, f2⟩) (m := 8 + 1) (fun x => absurd x.2.2.1 (by omega)))
        go_wp2_with fail
        refine (sPathsV_is false (some ⟨g3, 0, none⟩) (8 + 1) k3 _ n _ V.out RR.out (by omega)).mono ?_
        rintro e w4 ⟨rfl, hn⟩
        have hb4 := bl HH.out.2 (Nat.le_refl _) hn
        have hs4 := hb4.size
        clear hn RR
        go_wp2
        go_ret2
        exact .inr ⟨rfl, _, 0, rfl, gr_none _ (by first | omega | (simp; omega)) (by simp), by go_grown⟩
      · have hm7 : j < 8 := by omega
        have V := Lib.hid (pathsV_iff.2 ⟨hn5.1, hn5.2, (show j + 1 ≤ 8 by omega), FV.out⟩)
        clear h8
        go_wp2_with fail
        refine (sPathsV_is true (some ⟨g3, 0, none⟩) (j + 1) k3 _ n _ V.out RR.out (by omega)).mono ?_
        rintro e w4 ⟨rfl, hn⟩
        have hb4 := bl HH.out.2 (Nat.le_refl _) hn
        have G4 := Lib.hid (HH.out.1.call (Nat.le_refl _) hn)
        have hs4 := hn.size
        clear hn RR
        go_wp2
        go_ret2
        exact .inl ⟨hm7, g3, k3, rfl, G4.out.up (by omega), hb4⟩
set_option maxHeartbeats 1000000 in
theorem sAdd_no (A : Option Addr) (m c : Nat) (D : Nat → PD) (R : Option Addr) (r d : Nat) (n frm : Int) (w : World)
    (hF : Calls Try.prog 43 #[.int .i64 n, .slice A m c, .int .i64 frm, .slice R r d] w (NoPath w)) :
    Calls Try.prog 25 #[.int .i64 n, .slice A m c, .int .i64 frm, .slice R r d] w (AddRes w 31 false 0 D) := by
  have HF := Lib.hid hF
  clear hF
  go_enter Try.func25, Try.ntmps25
  go_wp2_with fail
  refine HF.out.mono ?_
  rintro e w1 ⟨rfl, hn⟩
  have hs := hn.size
  go_wp2
  go_ret2
  exact ⟨_, 0, rfl, gr_none _ (by first | omega | (simp; omega)) (by simp), by go_grown⟩
end Go.Proofs.Ytjppkcfbhhjniaa
