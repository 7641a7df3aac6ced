/-
  Contract of the draw of a path.
-/
import Derived.Test.YtjppkcfbhhjniaaDrawPP
import Derived.RegionTactic
import Derived.ChangeAlike
import Derived.Deep.DeepCutAuto
namespace Go.Proofs.Ytjppkcfbhhjniaa
open Go.RowKit Go.Deep
set_option linter.unusedVariables false

theorem two_at {w : World} {b : Nat} {x y : Int} (h : Bx w b [.int .i64 x, .int .i64 y]) (j : Nat) (hj : j < 2) : ∃ v : Int, w.cell? ⟨b, j, none⟩ = some (.int .i64 v) := by
  rcases (show j = 0 ∨ j = 1 by omega) with rfl | rfl
  · exact ⟨x, h.cell (i := 0) (by simp)⟩
  · exact ⟨y, h.cell (i := 1) (by simp)⟩
theorem two_cell (w : World) (x y : Int) (T : TypeId) (j : Nat) (hj : j < 2) : ∃ v : Int, (w.alloc (.cells #[.int .i64 x, .int .i64 y] T)).cell? ⟨w.heap.size, j, none⟩ = some (.int .i64 v) := two_at (Bx.new w [.int .i64 x, .int .i64 y] T) j hj
theorem slice_off {b o : Nat} (h : (some ⟨b, 0, none⟩ : Option Addr) = some ⟨b, o, none⟩) : o = 0 := by
  simp only [Option.some.injEq, Addr.mk.injEq, true_and, and_true] at h
  exact h.symm
/-- The end of the draw: the path is stored into the result's box. -/
theorem Ow.set0 {w : World} {b n k : Nat} {f : Nat → Int} {v : Int} (h : Ow w b (some ⟨b, 0, none⟩) n f) : Ow (w.setCell ⟨b, k, none⟩ (.int .i64 v)) b (some ⟨b, 0, none⟩) n (fun i => if i = k then v else f i) := by
  simpa using Ow.set (off := 0) (k := k) (v := v) h
theorem pathDr_end {B R q q0 X n1 c1 n2 c2 : Nat} {w w' : World} {a1 a2 : Option Addr} {f1 f2 : Nat → Int} (hX : w.heap.size = X) (h1 : n1 ≤ 5) (h2 : n2 ≤ 5) (r1 : Rl w' (X + 1) a1 n1 f1) (r2 : Rl w' (X + 1) a2 n2 f2) (hR : Rd B w' R q) (hq : q ≤ q0) (hRX : R < X) (hBX : B ≤ X) (hg : w.grownBy w' (some R)) :
    PathDr B w R q0 (.returned (.agg #[.slice a1 n1 c1, .slice a2 n2 c2])) ((w'.setCell ⟨X, 0, none⟩ (.slice a1 n1 c1)).setCell ⟨X, 1, none⟩ (.slice a2 n2 c2)) := by
  subst hX
  exact ⟨a1, n1, c1, f1, a2, n2, c2, f2, q, rfl, h1, h2, ((r1.store (a := ⟨w.heap.size, 0, none⟩) (by simp) _).store (a := ⟨w.heap.size, 1, none⟩) (by simp) _).low (by omega), ((r2.store (a := ⟨w.heap.size, 0, none⟩) (by simp) _).store (a := ⟨w.heap.size, 1, none⟩) (by simp) _).low (by omega),
    (hR.other (a := ⟨w.heap.size, 0, none⟩) (by simp; omega) (by simpa using hBX) _).other (a := ⟨w.heap.size, 1, none⟩) (by simp; omega) (by simpa using hBX) _, hq, gb_setCell (gb_setCell hg (.inr (by simp)) _) (.inr (by simp)) _⟩
theorem PathDr.drewN {B R q0 : Nat} {w w' : World} {e : Ending} (h : PathDr B w R q0 e w') (n : Nat) : PathDr B w R q0 e (w'.drewN n) := by
  obtain ⟨a1, n1, c1, f1, a2, n2, c2, f2, q, he, h1, h2, r1, r2, hR, hq, hg⟩ := h
  exact ⟨a1, n1, c1, f1, a2, n2, c2, f2, q, he, h1, h2, r1.drewN n, r2.drewN n, hR.drewN n, hq, gb_drewN hg n⟩
theorem PathDr.drew {B R q0 : Nat} {w w' : World} {e : Ending} (h : PathDr B w R q0 e w') : PathDr B w R q0 e w'.drew := h.drewN 1
/-- What holds ahead of the last rows: the boxes, the two slices, the reader. -/
def PaW (B : Nat) (w : World) (R q X Bp : Nat) (wx : World) : Prop :=
  ∃ (a1 : Option Addr) (n1 c1 : Nat) (a2 : Option Addr) (n2 c2 : Nat), Bx wx X [.slice none 0 0, .slice none 0 0] ∧ Bx wx Bp [.slice a1 n1 c1, .slice a2 n2 c2] ∧ (n1 ≤ 5 ∧ n2 ≤ 5) ∧ (∃ f, Rl wx (X + 1) a1 n1 f) ∧ (∃ f, Rl wx (X + 1) a2 n2 f) ∧ (∃ t, t ≤ q ∧ Rd B wx R t) ∧ w.grownBy wx (some R)
theorem PaW.alloc {B R q X Bp : Nat} {w wx : World} (h : PaW B w R q X Bp wx) (o : Obj) : PaW B w R q X Bp (wx.alloc o) := by
  obtain ⟨a1, n1, c1, a2, n2, c2, h1, h2, hn, ⟨f, r1⟩, ⟨g, r2⟩, ⟨t, ht, h5⟩, h6⟩ := h
  exact ⟨a1, n1, c1, a2, n2, c2, h1.alloc o, h2.alloc o, hn, ⟨f, r1.alloc o⟩, ⟨g, r2.alloc o⟩, ⟨t, ht, h5.alloc o⟩, gb_alloc h6 o⟩
theorem PaW.drewN {B R q X Bp : Nat} {w wx : World} (h : PaW B w R q X Bp wx) (m : Nat) : PaW B w R q X Bp (wx.drewN m) := by
  obtain ⟨a1, n1, c1, a2, n2, c2, h1, h2, hn, ⟨f, r1⟩, ⟨g, r2⟩, ⟨t, ht, h5⟩, h6⟩ := h
  exact ⟨a1, n1, c1, a2, n2, c2, h1, h2, hn, ⟨f, r1⟩, ⟨g, r2⟩, ⟨t, ht, h5.drewN m⟩, gb_drewN h6 m⟩
theorem PaW.drew {B R q X Bp : Nat} {w wx : World} (h : PaW B w R q X Bp wx) : PaW B w R q X Bp wx.drew := h.drewN 1
section
variable {B R q t T Bp g1 k1 g2 k2 n : Nat} {l1 l2 : List Int} {w wx : World}
/-- As it stands. -/
theorem paW_same (h : PaM wx T w.heap.size Bp n l1 g1 k1 n l2 g2 k2) (hn : n ≤ 5) (hR : Rd B wx R t) (ht : t ≤ q) (hg : w.grownBy wx (some R)) : PaW B w R q w.heap.size Bp wx := by
  obtain ⟨o1, o2, h1, h2⟩ := h.ow
  obtain ⟨p1, p2, p3, p4, p5, p6⟩ := h
  exact ⟨_, _, _, _, _, _, p1, p2, ⟨hn, hn⟩, ⟨_, Rl.of_ow o1 (by omega)⟩, ⟨_, Rl.of_ow o2 (by omega)⟩, ⟨t, ht, hR⟩, hg⟩
/-- A store into the second row. -/
theorem paW_two (h : PaM wx T w.heap.size Bp n l1 g1 k1 n l2 g2 k2) (hn : n ≤ 5) (hR : Rd B wx R t) (ht : t ≤ q) (hg : w.grownBy wx (some R)) (hB : B ≤ w.heap.size) (hl : R < w.heap.size) (s : Nat) (x : Int) :
    PaW B w R q w.heap.size Bp (wx.setCell ⟨g2, s, none⟩ (.int .i64 x)) := by
  obtain ⟨o1, o2, h1, h2⟩ := h.ow
  obtain ⟨p1, p2, p3, p4, p5, p6⟩ := h
  exact ⟨_, _, _, _, _, _, p1.other (by simp; omega) _, p2.other (by simp; omega) _, ⟨hn, hn⟩, ⟨_, Rl.of_ow (o1.store (by simp; omega) _) (by omega)⟩, ⟨_, Rl.of_ow o2.set0 (by omega)⟩, ⟨t, ht, hR.other (by simp; omega) (by simp; omega) _⟩, gb_store hg (by simp; omega) _⟩
/-- A store into the first row. -/
theorem paW_one (h : PaM wx T w.heap.size Bp n l1 g1 k1 n l2 g2 k2) (hn : n ≤ 5) (hR : Rd B wx R t) (ht : t ≤ q) (hg : w.grownBy wx (some R)) (hB : B ≤ w.heap.size) (hl : R < w.heap.size) (s : Nat) (x : Int) :
    PaW B w R q w.heap.size Bp (wx.setCell ⟨g1, s, none⟩ (.int .i64 x)) := by
  obtain ⟨o1, o2, h1, h2⟩ := h.ow
  obtain ⟨p1, p2, p3, p4, p5, p6⟩ := h
  exact ⟨_, _, _, _, _, _, p1.other (by simp; omega) _, p2.other (by simp; omega) _, ⟨hn, hn⟩, ⟨_, Rl.of_ow o1.set0 (by omega)⟩, ⟨_, Rl.of_ow (o2.store (by simp; omega) _) (by omega)⟩, ⟨t, ht, hR.other (by simp; omega) (by simp; omega) _⟩, gb_store hg (by simp; omega) _⟩
/-- The second slice is cut at its head. -/
theorem paW_cut (h : PaM wx T w.heap.size Bp n l1 g1 k1 n l2 g2 k2) (hn : n ≤ 5) (hR : Rd B wx R t) (ht : t ≤ q) (hg : w.grownBy wx (some R)) (hB : B ≤ w.heap.size) (hl : R < w.heap.size) {a2 : Option Addr} {n2 c2 : Nat} (hn2 : n2 ≤ 5) (h2 : ∃ f, Rl wx (w.heap.size + 1) a2 n2 f) (hBp : w.heap.size < Bp) (hBg : g1 ≠ Bp) (h2B : ∀ x, 0 < n2 → a2 = some x → x.block ≠ Bp) :
    PaW B w R q w.heap.size Bp (wx.setCell ⟨Bp, 1, none⟩ (.slice a2 n2 c2)) := by
  obtain ⟨o1, o2, h1, h2'⟩ := h.ow
  obtain ⟨p1, p2, p3, p4, p5, p6⟩ := h
  obtain ⟨f, r⟩ := h2
  refine ⟨_, _, _, a2, n2, c2, p1.other (by simp; omega) _, by simpa using p2.set 1 (.slice a2 n2 c2), ⟨hn, hn2⟩, ⟨_, Rl.of_ow (o1.store (by simp; omega) _) (by omega)⟩, ⟨f, fun h0 => ?_⟩, ⟨t, ht, hR.other (by simp; omega) (by simp; omega) _⟩, gb_store hg (by simp; omega) _⟩
  obtain ⟨b, off, e, q1, q2, hc⟩ := r h0
  have := h2B _ h0 e
  exact ⟨b, off, e, q1, by simpa [World.setCell] using q2, fun i hi => by rw [World.cell?_setCell_other _ _ _ _ (fun x => this (by simp only [Addr.mk.injEq] at x; exact x.1.symm))]; exact hc i hi⟩
end
set_option maxRecDepth 100000 in
set_option maxHeartbeats 8000000 in
theorem path_any (B R p n : Nat) (w : World) (h : Rd B w R p) (hp : p ≤ 50000) (hn : 1 ≤ n ∧ n ≤ 4) :
    Calls Try.prog 63 #[.pointer (some ⟨R, 0, none⟩), .int .i64 (n : Int)] w (PathDr B w R (p + 40)) := by
  obtain ⟨i0, ji0, jz0, jz1, jz2⟩ := info_parts intInfo
  have hlt := h.lt
  have hbs := h.base
  have o1 := World.ownsRow_made (base := w.heap.size + 1) (size := 1) (e := 3) (w.alloc (.cells #[.slice none 0 0, .slice none 0 0] 31)) #[] 0 (by simp) (by unfold maxLen; omega) (by simp)
  have o2 := World.ownsRow_made (base := w.heap.size + 1) (size := 1) (e := 3) ((w.alloc (.cells #[.slice none 0 0, .slice none 0 0] 31)).alloc (.cells #[] 3)) #[] 0 (by simp) (by unfold maxLen; omega) (by simp)
  have hm0 : PaM ((((w.alloc (.cells #[.slice none 0 0, .slice none 0 0] 31)).alloc (.cells #[] 3)).alloc (.cells #[] 3)).alloc (.cells #[.slice (some ⟨w.heap.size + 1, 0, none⟩) 0 0, .slice (some ⟨w.heap.size + 1 + 1, 0, none⟩) 0 0] 31)) 3 w.heap.size (w.heap.size + 1 + 1 + 1) 0 [] (w.heap.size + 1) 0 0 [] (w.heap.size + 1 + 1) 0 := by
    refine ⟨(((Bx.new w _ _).alloc _).alloc _).alloc _, ?_, ?_, ?_, ⟨by omega, by omega, by omega⟩, by omega⟩
    · have := Bx.new (((w.alloc (.cells #[.slice none 0 0, .slice none 0 0] 31)).alloc (.cells #[] 3)).alloc (.cells #[] 3)) [.slice (some ⟨w.heap.size + 1, 0, none⟩) 0 0, .slice (some ⟨w.heap.size + 1 + 1, 0, none⟩) 0 0] 31
      simpa using this
    · have := (o1.alloc (.cells #[] 3)).alloc (.cells #[.slice (some ⟨w.heap.size + 1, 0, none⟩) 0 0, .slice (some ⟨w.heap.size + 1 + 1, 0, none⟩) 0 0] 31)
      simpa [ints] using this
    · have := o2.alloc (.cells #[.slice (some ⟨w.heap.size + 1, 0, none⟩) 0 0, .slice (some ⟨w.heap.size + 1 + 1, 0, none⟩) 0 0] 31)
      simpa [ints] using this
  have hr0 := (((h.alloc (.cells #[.slice none 0 0, .slice none 0 0] 31)).alloc (.cells #[] 3)).alloc (.cells #[] 3)).alloc (.cells #[.slice (some ⟨w.heap.size + 1, 0, none⟩) 0 0, .slice (some ⟨w.heap.size + 1 + 1, 0, none⟩) 0 0] 31)
  have hg0 : w.grownBy ((((w.alloc (.cells #[.slice none 0 0, .slice none 0 0] 31)).alloc (.cells #[] 3)).alloc (.cells #[] 3)).alloc (.cells #[.slice (some ⟨w.heap.size + 1, 0, none⟩) 0 0, .slice (some ⟨w.heap.size + 1 + 1, 0, none⟩) 0 0] 31)) (some R) := gb_alloc (gb_alloc (gb_alloc (gb_alloc (gb_refl w _) _) _) _) _
  clear o1 o2 h
  go_enter Try.func63, Try.ntmps63
  go_wp2_with fail
  generalize hW : (((w.alloc (.cells #[.slice none 0 0, .slice none 0 0] 31)).alloc (.cells #[] 3)).alloc (.cells #[] 3)).alloc (.cells #[.slice (some ⟨w.heap.size + 1, 0, none⟩) 0 0, .slice (some ⟨w.heap.size + 1 + 1, 0, none⟩) 0 0] 31) = W at *
  clear hW
  refine (pick_any B R p 60 W hr0 (by omega) (by omega) (by omega)).mono ?_
  rintro e w1 ⟨v0, rfl, hv0, hv1, hR, hg⟩
  have hm1 := hm0.grown hg hlt
  have hg1 := gb_trans hg0 hg
  clear hm0 hr0 hg0 hg
  go_wp2_with fail
  go_loopw [6, 7] (fun t i wr => ∃ (j : Nat) (l1 l2 : List Int) (g1 k1 g2 k2 q : Nat) (u : Int), j ≤ n ∧ i = .int .i64 j ∧ t = .int .i64 u ∧ (0 ≤ u ∧ u ≤ 60 + 30 * j) ∧ PaM wr 3 w.heap.size (w.heap.size + 1 + 1 + 1) j l1 g1 k1 j l2 g2 k2 ∧ Rd B wr R q ∧ q ≤ p + 1 + 3 * j ∧ w.grownBy wr (some R)) (fun _ i _ => n - (intOf i).toNat)
  case atStart => exact ⟨0, [], [], _, _, _, _, p + 1, v0, by omega, rfl, rfl, by omega, hm1, hR, by omega, hg1⟩
  case round =>
    clear hm1 hR hg1
    obtain ⟨j, l1, l2, g1, k1, g2, k2, q, u, hj, rfl, rfl, hu, hm, hR, hq, hg⟩ := hrel
    by_cases hlt2 : j < n
    · go_wp2_with fail
      refine (pick_any B R q 3 _ hR (by omega) (by omega) (by omega)).mono ?_
      rintro e w2 ⟨v1, rfl, hv1a, hv1b, hR, hg2⟩
      have hm := hm.grown hg2 hlt
      have hg := gb_trans hg hg2
      clear hg2
      go_wp2_with fail
      refine (pick_any B R (q + 1) 4 _ hR (by omega) (by omega) (by omega)).mono ?_
      rintro e w3 ⟨v2, rfl, hv2a, hv2b, hR, hg2⟩
      have hm := hm.grown hg2 hlt
      have hg := gb_trans hg hg2
      clear hg2
      have hv12 : 0 ≤ v1 * v2 ∧ v1 * v2 ≤ 6 := by
        have h1 : v1 = 0 ∨ v1 = 1 ∨ v1 = 2 := by omega
        rcases h1 with rfl | rfl | rfl <;> omega
      have y1 : IntKind.i64.wrap (v1 * v2) = v1 * v2 := IntWalk.i64_in _ (by omega)
      obtain ⟨⟨c0, c1⟩, ⟨f0, f1⟩, lB⟩ := hm.cells
      have hcp1 := owns_cap hm.2.2.1
      have hcp2 := owns_cap hm.2.2.2.1
      have HM := Lib.hid hm
      have hsz := hg.size
      clear hm
      go_wp2_with (at_builtin; refine wpList_append_lies _ rfl _ _ _ rfl (w.heap.size + 1) 3 i0 (.int .i64 0) 1 8 Try.underlying27 ji0 jz0 jz1 jz2 rfl (by omega) (.slice (some ⟨g1, 0, none⟩) j k1) j (ints l1) rfl (HM.out.2.2.1.alloc _) ⟨w3.heap.size, 0, none⟩ 1 1 [.int .i64 (u + v1 * v2)] rfl rfl ?c1 ?c2 (by omega) ?c3 ?c4 ?c5 (w3.heap.size + 1) ?c6 ?_)
      case c1 => exact World.news_of_block (cs := #[.int .i64 (u + v1 * v2)]) (t := 3) (fr := (0, 0)) (heap_alloc_new w3 _)
      case c2 => simp [Value.oneCell']
      case c3 => unfold maxLen; omega
      case c4 => omega
      case c5 => simp; omega
      case c6 => simp
      intro g3 k3 w4 hown3 hg3 hat3 hlt3
      have hg3 : (w3.alloc (.cells #[.int .i64 (u + v1 * v2)] 3)).grownBy w4 (some g1) := hg3
      have hat3 : g3 = g1 ∨ g3 = w3.heap.size + 1 := by rcases hat3 with h | h; (simp [Value.ownBlock] at h; exact .inl h.symm); exact .inr h
      have hx4 := (HM.out.2.1.alloc (.cells #[.int .i64 (u + v1 * v2)] 3)).grown hg3 (by have := HM.out.2.2.2.2.1; simp; omega)
      have f0 := hx4.frz 0
      have lB := hx4.lt
      have c0 := hx4.cell (i := 0) (by simp)
      have c1 := hx4.cell (i := 1) (by simp)
      simp only [List.getElem_cons_zero, List.getElem_cons_succ] at c0 c1
      have hm5 := HM.out.put1 hg3 hown3 hat3
      have hR5 := ((hR.alloc (.cells #[.int .i64 (u + v1 * v2)] 3)).gr hg3 (by omega)).other (a := ⟨w.heap.size + 1 + 1 + 1, 0, none⟩) (by simp; omega) (by simp; omega) (.slice (some ⟨g3, 0, none⟩) (j + 1) k3)
      have hg5 := gb_store (gb_new (gb_alloc hg (.cells #[.int .i64 (u + v1 * v2)] 3)) hg3 (by omega)) (q := ⟨w.heap.size + 1 + 1 + 1, 0, none⟩) (by simp; omega) (.slice (some ⟨g3, 0, none⟩) (j + 1) k3)
      clear hown3 hg3 HM hR hg hx4
      go_wp2_with fail
      refine (pick_any B R (q + 1 + 1) 9 _ hR5 (by omega) (by omega) (by omega)).mono ?_
      rintro e w6 ⟨v3, rfl, hv3a, hv3b, hR, hg6⟩
      have hm := hm5.grown hg6 hlt
      have hg := gb_trans hg5 hg6
      obtain ⟨⟨c0, c1⟩, ⟨f0, f1⟩, lB⟩ := hm.cells
      have hcp1 := owns_cap hm.2.2.1
      have hcp2 := owns_cap hm.2.2.2.1
      have HM := Lib.hid hm
      have hsz := hg.size
      clear hm hm5 hR5 hg5 hg6
      go_wp2_with (at_builtin; refine wpList_append_lies _ rfl _ _ _ rfl (w.heap.size + 1) 3 i0 (.int .i64 0) 1 8 Try.underlying27 ji0 jz0 jz1 jz2 rfl (by omega) (.slice (some ⟨g2, 0, none⟩) j k2) j (ints l2) rfl (HM.out.2.2.2.1.alloc _) ⟨w6.heap.size, 0, none⟩ 1 1 [.int .i64 (u + v1 * v2 + 1 + v3)] rfl rfl ?e1 ?e2 (by omega) ?e3 ?e4 ?e5 (w6.heap.size + 1) ?e6 ?_)
      case e1 => exact World.news_of_block (cs := #[.int .i64 (u + v1 * v2 + 1 + v3)]) (t := 3) (fr := (0, 0)) (heap_alloc_new w6 _)
      case e2 => simp [Value.oneCell']
      case e3 => unfold maxLen; omega
      case e4 => omega
      case e5 => simp; omega
      case e6 => simp
      intro g4 k4 w7 hown4 hg4 hat4 hlt4
      have hg4 : (w6.alloc (.cells #[.int .i64 (u + v1 * v2 + 1 + v3)] 3)).grownBy w7 (some g2) := hg4
      have hat4 : g4 = g2 ∨ g4 = w6.heap.size + 1 := by rcases hat4 with h | h; (simp [Value.ownBlock] at h; exact .inl h.symm); exact .inr h
      have hx4 := (HM.out.2.1.alloc (.cells #[.int .i64 (u + v1 * v2 + 1 + v3)] 3)).grown hg4 (by have := HM.out.2.2.2.2.1; simp; omega)
      have f1 := hx4.frz 1
      have lB := hx4.lt
      have c0 := hx4.cell (i := 0) (by simp)
      have c1 := hx4.cell (i := 1) (by simp)
      simp only [List.getElem_cons_zero, List.getElem_cons_succ] at c0 c1
      have hm5 := HM.out.put2 hg4 hown4 hat4
      have hR5 := ((hR.alloc (.cells #[.int .i64 (u + v1 * v2 + 1 + v3)] 3)).gr hg4 (by omega)).other (a := ⟨w.heap.size + 1 + 1 + 1, 1, none⟩) (by simp; omega) (by simp; omega) (.slice (some ⟨g4, 0, none⟩) (j + 1) k4)
      have hg5 := gb_store (gb_new (gb_alloc hg (.cells #[.int .i64 (u + v1 * v2 + 1 + v3)] 3)) hg4 (by omega)) (q := ⟨w.heap.size + 1 + 1 + 1, 1, none⟩) (by simp; omega) (.slice (some ⟨g4, 0, none⟩) (j + 1) k4)
      clear hown4 hg4 HM hR hg hx4 y1
      go_wp2_with fail
      go_roundw
      case rel => exact ⟨j + 1, _, _, g3, k3, g4, k4, q + 1 + 1 + 1, _, by omega, by go_num, rfl, by omega, hm5, hR5, by omega, hg5⟩
      case measure => simp [intOf]; omega
    · obtain rfl : j = n := by omega
      obtain ⟨s, rfl⟩ : ∃ s, j = s + 1 := ⟨j - 1, by omega⟩
      go_upto_if 43 with (fail)
      go_cut [] from 44 to 79 (fun wx => PaW B w R (p + 40) w.heap.size (w.heap.size + 1 + 1 + 1) wx)
      case first =>
        go_wp2_with fail
        refine (pick_any B R q 40 _ hR (by omega) (by omega) (by omega)).mono ?_
        rintro e w2 ⟨v, rfl, hva, hvb, hR, hg2⟩
        have hm := hm.grown hg2 hlt
        have hg := gb_trans hg hg2
        obtain ⟨⟨c0, c1⟩, ⟨f0, f1⟩, lB⟩ := hm.cells
        have hcp1 := owns_cap hm.2.2.1
        have hcp2 := owns_cap hm.2.2.2.1
        obtain ⟨n1, n2, n3⟩ := hm.2.2.2.2.1
        obtain ⟨O1, O2, hX1, hX2⟩ := hm.ow
        have x0 := hm.1.cell (i := 0) (by simp)
        have x1 := hm.1.cell (i := 1) (by simp)
        have x2 := hm.1.frz 0
        have x3 := hm.1.frz 1
        simp only [List.getElem_cons_zero, List.getElem_cons_succ] at x0 x1
        have hsz := hg.size
        have gl1 := (hm.2.2.1.lt g1 rfl).2
        have gl2 := (hm.2.2.2.1.lt g2 rfl).2
        obtain ⟨F1, hF1⟩ : ∃ F : Nat → Int, (fun i => l1.getD i 0) = F := ⟨_, rfl⟩
        obtain ⟨F2, hF2⟩ : ∃ F : Nat → Int, (fun i => l2.getD i 0) = F := ⟨_, rfl⟩
        rw [hF1] at O1
        rw [hF2] at O2
        have HO1 := Lib.hid O1
        have HO2 := Lib.hid O2
        have HR := Lib.hid hR
        have HG := Lib.hid hg
        have HM := Lib.hid hm
        obtain ⟨of1, e1, _, fz1, cc1⟩ := O1 (by omega)
        obtain ⟨of2, e2, _, fz2, cc2⟩ := O2 (by omega)
        simp only [Option.some.injEq, Addr.mk.injEq, true_and, and_true] at e1 e2
        obtain rfl : of1 = 0 := e1.symm
        obtain rfl : of2 = 0 := e2.symm
        have y10 := cc1 0 (by omega)
        have y20 := cc2 0 (by omega)
        have y1s := cc1 s (by omega)
        have y2s := cc2 s (by omega)
        simp only [Nat.zero_add] at y10 y20 y1s y2s
        have z10 := fz1 0
        have z20 := fz2 0
        have z1s := fz1 s
        have z2s := fz2 s
        have ne1 : g1 ≠ w.heap.size := by omega
        have ne2 : g2 ≠ w.heap.size := by omega
        have ne3 : w.heap.size ≠ g1 := by omega
        have ne4 : w.heap.size ≠ g2 := by omega
        have ne5 : w.heap.size + 1 + 1 + 1 ≠ g1 := by omega
        have ne6 : w.heap.size + 1 + 1 + 1 ≠ g2 := by omega
        have ne7 : g2 ≠ g1 := by omega
        have s0 : (0 : Int) ≤ (s : Int) := by omega
        have s1 : (0 : Int) < (s : Int) + 1 := by omega
        have s2 : (s : Int) < (s : Int) + 1 := by omega
        have s3 : 0 < s + 1 := by omega
        have s4 : s < s + 1 := by omega
        have y4 : IntKind.i64.wrap ((s : Int) + 1 - 1) = (s : Int) := by rw [show (s : Int) + 1 - 1 = s by omega]; exact IntWalk.i64_in _ (by omega)
        have y5 : IntKind.i64.wrap (s : Int) = (s : Int) := IntWalk.i64_in _ (by omega)
        clear hm hR hg hg2 O1 O2 cc1 cc2 fz1 fz2 hF1 hF2 e1 e2
        have VA := Lib.hid (paW_same (q := p + 40) HM.out (by omega) HR.out (by omega) HG.out)
        have V1 := Lib.hid (paW_one (q := p + 40) HM.out (by omega) HR.out (by omega) HG.out (by omega) hlt)
        have V2 := Lib.hid (paW_two (q := p + 40) HM.out (by omega) HR.out (by omega) HG.out (by omega) hlt)
        by_cases h0 : v = 0
        · subst h0
          clear y4 y5 s2 s4 s0 y1s y2s z1s z2s z10
          go_wp2
          go_region
          all_goals
            go_wp2
            go_meet
            first | exact V2.out _ _ | exact (V2.out _ _).drew
        by_cases h1 : v = 1
        · subst h1
          clear y10 y20 z10 z20 y2s z2s h0
          go_wp2
          go_meet
          exact V1.out _ _
        by_cases h2 : v = 2
        · subst h2
          clear y10 y20 z10 z20 y1s z1s h0 h1 x0 x1 x2 x3 HO1 HO2 VA V1 V2
          have hbx := Bx.new w2.drew [.int .i64 2000, .int .i64 2001] 3
          simp only [World.size_drew] at hbx
          go_wp2
          go_region_with ((go_at_call 61; refine (pick_any B R (q + 1) 2 _ ?_ (by omega) (by omega) (by omega)).mono ?_; (first | exact HR.out.drew | exact HR.out.drew.alloc _); rintro e w3 ⟨v3, rfl, a3, b3, hR3, hg3⟩; obtain ⟨jn, rfl⟩ := Int.eq_ofNat_of_zero_le a3; (first | (have hm3 := PaM.grown (w := w2.drew) HM.out hg3 hlt; have hg4 := gb_trans (gb_drew HG.out) hg3; obtain ⟨xv, hxv⟩ := two_cell w3 2000 2001 3 jn (by omega)) | (have hm3 := PaM.grown (PaM.alloc (w := w2.drew) HM.out _) hg3 hlt; have hg4 := gb_trans (gb_alloc (gb_drew HG.out) _) hg3; obtain ⟨xv, hxv⟩ := two_at (hbx.grown hg3 (by simp; omega)) jn (by omega))); obtain ⟨⟨m0, m1⟩, ⟨m2, m3⟩, m4⟩ := hm3.cells; have VS := Lib.hid (paW_two (q := p + 40) hm3 (by omega) hR3 (by omega) hg4 (by omega) hlt); obtain ⟨o3, e3, q3, fz3, cc3⟩ := hm3.ow.2.1 (by omega); have e4 := slice_off e3; subst e4; have cs3 := cc3 s (by omega); have fs3 := fz3 s; have lg3 := (hm3.2.2.2.1.lt g2 rfl).2; have lw3 := hg3.size; have b4 : (0 : Int) ≤ (jn : Int) := Int.natCast_nonneg _; simp only [Nat.zero_add] at cs3; clear hm3 cc3 fz3 e3 hg3 hg4 hR3))
          all_goals
            clear y2s z2s c0 c1 f0 f1 hbx
            go_wp2
            go_meet
            (first | exact VS.out _ _ | exact (VS.out _ _).alloc _ | exact (VS.out _ _).drew | exact ((VS.out _ _).alloc _).drew)
        by_cases h3 : v = 3
        · subst h3
          clear y10 y20 z10 z20 y1s z1s y2s z2s h0 h1 h2 y4 y5 VA V1 V2
          have a1 : (1 : Int) ≤ (s : Int) + 1 := by omega
          have a2 : (1 : Int) ≤ (k2 : Int) := by omega
          have a3 : (s : Int) + 1 ≤ (k2 : Int) := by omega
          by_cases hk : k2 = 1
          · obtain rfl : s = 0 := by omega
            subst hk
            have VC := Lib.hid (fun c2 => paW_cut (q := p + 40) (c2 := c2) HM.out (by omega) HR.out (by omega) HG.out (by omega) hlt (a2 := some ⟨g2, 0, none⟩) (n2 := 0) (by omega) ⟨fun _ => 0, fun h => absurd h (by omega)⟩ (by omega) n2 (fun _ h => absurd h (by omega)))
            go_wp2
            go_meet
            exact VC.out _
          · have a4 : ((k2 : Int) == 1) = false := beq_eq_false_iff_ne.2 (by omega)
            have VC := Lib.hid (fun c2 => paW_cut (q := p + 40) (c2 := c2) HM.out (by omega) HR.out (by omega) HG.out (by omega) hlt (a2 := some ⟨g2, 1, none⟩) (n2 := s) (by omega) ⟨_, Rl.tail (Rl.of_ow HO2.out (by omega))⟩ (by omega) n2 (fun x _ e => by injection e with e; subst e; exact n3))
            go_wp2
            go_meet
            exact VC.out _
        · have e0 : (v == 0) = false := beq_eq_false_iff_ne.2 h0
          have e1 : (v == 1) = false := beq_eq_false_iff_ne.2 h1
          have e2 : (v == 2) = false := beq_eq_false_iff_ne.2 h2
          have e3 : (v == 3) = false := beq_eq_false_iff_ne.2 h3
          clear y10 y20 z10 z20 y1s z1s y2s z2s y4 y5 h0 h1 h2 h3
          go_wp2
          go_meet
          exact VA.out
      case rest =>
        clear hm hR hg
        obtain ⟨a1, n1, k1', a2, n2, k2', hx, hb, ⟨m1, m2⟩, ⟨G1, r1⟩, ⟨G2, r2⟩, ⟨t, ht, hR3⟩, hg3⟩ := hcut
        have x0 := hx.cell (i := 0) (by simp)
        have x1 := hx.cell (i := 1) (by simp)
        have x2 := hx.frz 0
        have x3 := hx.frz 1
        have c0 := hb.cell (i := 0) (by simp)
        have c1 := hb.cell (i := 1) (by simp)
        have lx := hx.lt
        have lb := hb.lt
        simp only [List.getElem_cons_zero, List.getElem_cons_succ] at x0 x1 c0 c1
        have R1 := Lib.hid r1
        have R2 := Lib.hid r2
        have R3 := Lib.hid hR3
        have R4 := Lib.hid hg3
        clear hx hb r1 r2 hR3 hg3
        go_wp2
        refine bodyPost_ret (by simp [results, Try.results63, go_sem, *]; rfl) rfl ?_
        exact pathDr_end (q := t) (q0 := p + 40) rfl m1 m2 R1.out R2.out R3.out (by omega) hlt (by omega) R4.out
end Go.Proofs.Ytjppkcfbhhjniaa
