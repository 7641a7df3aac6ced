/-
  Contracts of the draws of FnPaths, FnFit, FnFitFewer, FnAddPath.
-/
import Derived.Test.YtjppkcfbhhjniaaDrawPw
namespace Go.Proofs.Ytjppkcfbhhjniaa
open Go.RowKit Go.Deep
set_option linter.unusedVariables false
set_option linter.unusedSimpArgs false

theorem results_tmp4 {fn : Func} {t u v x : Tmp} (h : fn.results = #[.tmp t, .tmp u, .tmp v, .tmp x]) (tmps : Array Value) (P : Program) (w : World) :
    (results fn tmps).run P w = .ok (.tuple #[tmps.getD t undef, tmps.getD u undef, tmps.getD v undef, tmps.getD x undef]) w := by
  simp [results, h]
/-- What a draw of paths, a time and runs leaves. -/
def FitDr (w : World) (e : Ending) (w' : World) : Prop :=
  ∃ (n g m c : Nat) (D : Nat → PD) (frm : Int) (R : Option Addr) (r d : Nat) (f : Nat → Int), e = .returned (.tuple #[.int .i64 (n : Int), .slice (some ⟨g, 0, none⟩) m c, .int .i64 frm, .slice R r d]) ∧ r ≤ 5 ∧ (-100 ≤ frm ∧ frm ≤ 100) ∧ Rn w' w'.heap.size R r f ∧ ListDr w n g m c D w'
set_option maxHeartbeats 2000000 in
theorem d_DrawPathsFit (A : Option Addr) (len cap : Nat) (w : World) (hA : BytesAt w.heap.size w A len) (hl : len ≤ 1048576) (hc : len ≤ cap) (hm : cap ≤ 9223372036854775807) :
    Calls Try.prog 41 #[.slice A len cap] w (FitDr w) := by
  go_enter Try.func41, Try.ntmps41
  go_wp2_with fail
  refine (open_any A len cap w hA hl hc hm).mono ?_
  rintro e w1 ⟨rfl, hR, hb⟩
  go_wp2_with fail
  refine (paths_any _ _ 0 w1 hR (by omega)).mono ?_
  rintro e w2 ⟨n, g, k, c, D, q, rfl, hn, hk, hD, hd, hR2, hq, hg⟩
  have hRl := hR.lt
  have HP := Lib.hid hd
  have HG := Lib.hid hg
  have HB := Lib.hid hb
  have HD := Lib.hid hD
  have hs := hg.size
  clear hd hg hR hD hb
  go_wp2_with fail
  refine (pick_any _ _ q 80 w2 hR2 (by omega) (by omega) (by omega)).mono ?_
  rintro e w3 ⟨v, rfl, hva, hvb, hR3, hg3⟩
  have hs3 := hg3.size
  clear hR2
  go_wp2_with fail
  refine (pick_any _ _ (q + 1) 16 w3 hR3 (by omega) (by omega) (by omega)).mono ?_
  rintro e w4 ⟨u, rfl, hua, hub, hR4, hg4⟩
  have hs4 := hg4.size
  have hg4 := gb_trans hg3 hg4
  clear hR3 hg3
  obtain ⟨ju, rfl⟩ := Int.eq_ofNat_of_zero_le hua
  have hfr : ∃ z : Int, (0 ≤ z ∧ z ≤ 1) ∧ Int.tdiv (ju : Int) 15 = z ∧ (ju : Int) / 15 = z := by
    by_cases c : ju < 15
    · exact ⟨0, by omega, Int.tdiv_eq_zero_of_lt (by omega) (by omega), Int.ediv_eq_zero_of_lt (by omega) (by omega)⟩
    · obtain rfl : ju = 15 := by omega
      exact ⟨1, by omega, rfl, rfl⟩
  obtain ⟨z, hz, hz1, hz2⟩ := hfr
  go_wp2_with fail
  refine (runs_any _ _ (q + 1 + 1) n _ hR4 (by omega) hn).mono ?_
  rintro e w5 ⟨A5, r5, c5, f5, q5, rfl, hr5, rl5, hR5, hq5, hg5⟩
  have hg5 := gb_trans hg4 hg5
  have L := Lib.hid (listDr_of HB.out hn (show k ≤ 10 by omega) HD.out (HP.out.grown (by omega) hg5) (Nat.le_refl _) (gb_trans HG.out hg5))
  have RL := Lib.hid rl5.rn
  clear hg5 hR5 hg4 hR4 HP HG HB HD rl5
  go_wp2
  ((try simp only [Exit.inBlock, Exit.then]); refine bodyPost_ret (results_tmp4 rfl _ _ _) rfl ?_)
  exact ⟨n, g, k, c, D, _, A5, r5, c5, f5, rfl, hr5, by omega, RL.out, L.out⟩
set_option maxHeartbeats 1000000 in
theorem d_DrawPathsAdd (A : Option Addr) (len cap : Nat) (w : World) (hA : BytesAt w.heap.size w A len) (hl : len ≤ 1048576) (hc : len ≤ cap) (hm : cap ≤ 9223372036854775807) :
    Calls Try.prog 23 #[.slice A len cap] w (FitDr w) := by
  go_enter Try.func23, Try.ntmps23
  go_wp2_with fail
  refine (d_DrawPathsFit A len cap w hA hl hc hm).mono ?_
  rintro e w1 ⟨n, g, m, c, D, frm, R, r, d, f, rfl, hr, hf, RL, L⟩
  have L := Lib.hid L
  have RL := Lib.hid RL
  go_wp2
  ((try simp only [Exit.inBlock, Exit.then]); refine bodyPost_ret (results_tmp4 rfl _ _ _) rfl ?_)
  exact ⟨n, g, m, c, D, frm, R, r, d, f, rfl, hr, hf, RL.out, L.out⟩
set_option maxRecDepth 100000 in
set_option maxHeartbeats 4000000 in
theorem d_DrawPathsValid (A : Option Addr) (len cap : Nat) (w : World) (hA : BytesAt w.heap.size w A len) (hl : len ≤ 1048576) (hc : len ≤ cap) (hm : cap ≤ 9223372036854775807) :
    Calls Try.prog 36 #[.slice A len cap] w (ValDr w) := by
  obtain ⟨p0, pi0, pz0, pz1, pz2⟩ := info_parts pathInfo
  go_enter Try.func36, Try.ntmps36
  go_wp2_with fail
  refine (open_any A len cap w hA hl hc hm).mono ?_
  rintro e w1 ⟨rfl, hR, hb⟩
  go_wp2_with fail
  refine (paths_any _ _ 0 w1 hR (by omega)).mono ?_
  rintro e w2 ⟨n, g, k, c, D, q, rfl, hn, hk, hD, hd, hR2, hq, hg⟩
  have hRl := hR.lt
  have HP := Lib.hid hd
  have HG := Lib.hid hg
  have HB := Lib.hid hb
  have HD := Lib.hid hD
  have hs := hg.size
  clear hd hg hR hD hb
  go_wp2_with fail
  refine (pick_any _ _ q 4 w2 hR2 (by omega) (by omega) (by omega)).mono ?_
  rintro e w3 ⟨v, rfl, hva, hvb, hR3, hg3⟩
  have HP3 := Lib.hid (HP.out.grown (by omega) hg3)
  have HG3 := Lib.hid (gb_trans HG.out hg3)
  have hs3 := HG3.out.size
  have HR3 := Lib.hid hR3
  have hglt := HP3.out.lt
  clear hR2 hR3 hg3 HP HG
  by_cases h0 : v = 0
  rotate_left
  · have d0 : (v == 0) = false := beq_eq_false_iff_ne.2 h0
    have L := Lib.hid (listDr_of HB.out hn (show k ≤ 10 by omega) HD.out HP3.out (Nat.le_refl _) HG3.out)
    clear h0
    go_wp2
    go_ret2
    exact ⟨n, g, k, c, D, rfl, L.out⟩
  subst h0
  obtain ⟨xs, ho, hx⟩ := HP3.out
  have hxl := ho.1
  have hcp := owns_cap ho
  have hx : PsCells w3 w1.heap.size g k D xs := hx
  have hone := psCells_one hx hxl
  have HX := Lib.hid hx
  have HO := Lib.hid ho
  have H1 := Lib.hid hone
  clear hx ho hone
  go_wp2_with (at_builtin; refine wp_app rfl _ _ _ rfl w1.heap.size 31 p0 (.agg #[.slice none 0 0, .slice none 0 0]) 2 48 Try.underlying23 pi0 pz0 pz1 pz2 rfl (by omega) w3.heap.size 0 0 [] rfl (World.ownsRow_made (base := w1.heap.size) (size := 2) (e := 31) w3 #[] 0 hs3 (by unfold maxLen; omega) (by simp)) ⟨g, 0, none⟩ k c xs rfl hxl ?c2 H1.out ?c3 ?c4 ?c5 (w3.heap.size + 1) ?c6 ?_)
  try case c2 => exact fun j u hu => (HO.out.alloc _).cells (g := g) rfl j u hu
  case c3 => unfold maxLen; omega
  case c4 => omega
  try case c5 => first | omega | (simp; omega)
  try case c6 => simp
  intro g1 k1 w4 hown1 hg1 hat1 hlt1
  (try simp only [Nat.zero_add, List.nil_append] at hown1)
  have hb4 : Below w3.heap.size w3 w4 := (show Below w3.heap.size w3 (w3.alloc (.cells #[] 31)) by go_grown).grown hg1 (by simp) (fun k e => by injection e with e; omega)
  have hd4 := DPs.copy HX.out hown1 (by omega) hb4
  have hR4 := Lib.hid (HR3.out.call hb4)
  have hs4 := hb4.size
  have hglt1 := hd4.lt
  have HP4 := Lib.hid hd4
  have HB4 := Lib.hid (gb_below (gb_refl w3 (some w.heap.size)) hb4)
  clear hown1 hg1 hd4 hb4 HX HO H1
  go_wp2_with fail
  refine (path_any _ _ (q + 1) n _ hR4.out (by omega) hn).mono ?_
  rintro e w5 ⟨a1, n1, c1, f1, a2, n2, c2, f2, q5, rfl, hn1, hn2, r1, r2, hR5, hq5, hg5⟩
  obtain ⟨ys, ho5, hy⟩ := (HP4.out.grown (by omega) hg5).alloc (.cells #[.slice a1 n1 c1, .slice a2 n2 c2] 31)
  have hyl := ho5.1
  have hcp5 := owns_cap ho5
  have HB5 := Lib.hid (gb_trans HB4.out hg5)
  have hs5 := hg5.size
  have HY := Lib.hid (show PsCells (w5.alloc (.cells #[.slice a1 n1 c1, .slice a2 n2 c2] 31)) w1.heap.size g1 k D ys from hy)
  have HO5 := Lib.hid ho5
  have Q1 := Lib.hid (Rx.of_rl (lo := w1.heap.size) (g := g1) (r1.alloc (.cells #[.slice a1 n1 c1, .slice a2 n2 c2] 31)) (by omega) (by omega))
  have Q2 := Lib.hid (Rx.of_rl (lo := w1.heap.size) (g := g1) (r2.alloc (.cells #[.slice a1 n1 c1, .slice a2 n2 c2] 31)) (by omega) (by omega))
  clear hy ho5 r1 r2 hR5 hg5 HP4 HB4 hR4
  go_wp2_with (at_builtin; refine wpList_append_lies _ rfl _ _ _ rfl w1.heap.size 31 p0 (.agg #[.slice none 0 0, .slice none 0 0]) 2 48 Try.underlying23 pi0 pz0 pz1 pz2 rfl (by omega) (.slice (some ⟨g1, 0, none⟩) k k1) k ys rfl HO5.out ⟨w5.heap.size, 0, none⟩ 1 1 [.slice a1 n1 c1, .slice a2 n2 c2] rfl rfl ?d1 (one2 _ _ _ _ _ _) (by omega) ?d3 ?d4 ?d5 (w5.heap.size + 1) ?d6 ?_)
  try case d1 => exact World.news_of_block (cs := #[.slice a1 n1 c1, .slice a2 n2 c2]) (t := 31) (fr := (0, 0)) (heap_alloc_new w5 _)
  case d3 => unfold maxLen; omega
  case d4 => omega
  case d5 => first | omega | (simp; omega)
  try case d6 => simp
  intro g6 k6 w6 hown6 hg6 hat6 hlt6
  have hg6 : (w5.alloc (.cells #[.slice a1 n1 c1, .slice a2 n2 c2] 31)).grownBy w6 (some g1) := hg6
  have hat6 : g6 = g1 ∨ g6 = w5.heap.size + 1 := by rcases hat6 with h | h; (simp [Value.ownBlock] at h; exact .inl h.symm); exact .inr h
  have hd6 := DPs.put hyl HY.out Q1.out Q2.out hown6 (by rcases hat6 with h | h; exact .inl h; exact .inr (by simp; omega)) hg6
  have hb6 := gb_trans HG3.out (gb_new (gb_alloc HB5.out (.cells #[.slice a1 n1 c1, .slice a2 n2 c2] 31)) hg6 (by omega))
  have L := Lib.hid (listDr_of HB.out hn (show k + 1 ≤ 10 by omega) (lensB_add (f1 := f1) (f2 := f2) HD.out hn1 hn2) hd6 (Nat.le_refl _) hb6)
  clear hown6 hg6 hd6 HY HO5 Q1 Q2 HB5 hb6
  go_wp2_with fail
  go_ret2
  exact ⟨n, g6, k + 1, k6, _, rfl, L.out⟩
end Go.Proofs.Ytjppkcfbhhjniaa
