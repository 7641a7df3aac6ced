/-
  Contract of the draw of two paths.
-/
import Derived.Test.YtjppkcfbhhjniaaDrawPb
namespace Go.Proofs.Ytjppkcfbhhjniaa
open Go.RowKit Go.Deep
set_option linter.unusedVariables false

/-- What a draw of a number of sections and two paths leaves. -/
def TwoDr (w : World) (e : Ending) (w' : World) : Prop :=
  ∃ (n : Nat) (a1 : Option Addr) (n1 c1 : Nat) (f1 : Nat → Int) (a2 : Option Addr) (n2 c2 : Nat) (f2 : Nat → Int) (b1 : Option Addr) (m1 d1 : Nat) (g1 : Nat → Int) (b2 : Option Addr) (m2 d2 : Nat) (g2 : Nat → Int), e = .returned (.tuple #[.int .i64 (n : Int), .agg #[.slice a1 n1 c1, .slice a2 n2 c2], .agg #[.slice b1 m1 d1, .slice b2 m2 d2]]) ∧ (1 ≤ n ∧ n ≤ 4) ∧ (n1 ≤ 5 ∧ n2 ≤ 5 ∧ m1 ≤ 5 ∧ m2 ≤ 5) ∧
    Rn w' w'.heap.size a1 n1 f1 ∧ Rn w' w'.heap.size a2 n2 f2 ∧ Rn w' w'.heap.size b1 m1 g1 ∧ Rn w' w'.heap.size b2 m2 g2 ∧ Below w.heap.size w w'
theorem TwoDr.drew {w : World} {e : Ending} {w' : World} (h : TwoDr w e w') : TwoDr w e w'.drew := by
  obtain ⟨n, a1, n1, c1, f1, a2, n2, c2, f2, b1, m1, d1, g1, b2, m2, d2, g2, he, hn, hh, r1, r2, r3, r4, hb⟩ := h
  exact ⟨n, a1, n1, c1, f1, a2, n2, c2, f2, b1, m1, d1, g1, b2, m2, d2, g2, he, hn, hh, r1, r2, r3, r4, hb.drew⟩
/-- What holds ahead of the last rows. -/
def TwoW (w : World) (a1 : Option Addr) (n1 : Nat) (a2 : Option Addr) (n2 : Nat) (b1 : Option Addr) (m1 : Nat) (b2 : Option Addr) (m2 : Nat) (wx : World) : Prop :=
  (∃ f, Rl wx (w.heap.size + 2) a1 n1 f) ∧ (∃ f, Rl wx (w.heap.size + 2) a2 n2 f) ∧ (∃ f, Rl wx (w.heap.size + 2) b1 m1 f) ∧ (∃ f, Rl wx (w.heap.size + 2) b2 m2 f) ∧ Below w.heap.size w wx
theorem TwoW.store {w wx : World} {a1 a2 b1 b2 : Option Addr} {n1 n2 m1 m2 : Nat} (h : TwoW w a1 n1 a2 n2 b1 m1 b2 m2 wx) {a : Addr} (h1 : w.heap.size ≤ a.block) (h2 : a.block < w.heap.size + 2) (v : Value) : TwoW w a1 n1 a2 n2 b1 m1 b2 m2 (wx.setCell a v) := by
  obtain ⟨⟨f, r1⟩, ⟨g, r2⟩, ⟨f', r3⟩, ⟨g', r4⟩, hb⟩ := h
  exact ⟨⟨f, r1.store h2 _⟩, ⟨g, r2.store h2 _⟩, ⟨f', r3.store h2 _⟩, ⟨g', r4.store h2 _⟩, hb.setCell h1 _⟩
theorem TwoW.fin {w wx : World} {n n1 c1 n2 c2 m1 d1 m2 d2 : Nat} {a1 a2 b1 b2 : Option Addr} (h : TwoW w a1 n1 a2 n2 b1 m1 b2 m2 wx) (hn : 1 ≤ n ∧ n ≤ 4) (hh : n1 ≤ 5 ∧ n2 ≤ 5 ∧ m1 ≤ 5 ∧ m2 ≤ 5) :
    TwoDr w (.returned (.tuple #[.int .i64 (n : Int), .agg #[.slice a1 n1 c1, .slice a2 n2 c2], .agg #[.slice b1 m1 d1, .slice b2 m2 d2]])) wx := by
  obtain ⟨⟨f, r1⟩, ⟨g, r2⟩, ⟨f', r3⟩, ⟨g', r4⟩, hb⟩ := h
  exact ⟨n, a1, n1, c1, f, a2, n2, c2, g, b1, m1, d1, f', b2, m2, d2, g', rfl, hn, hh, r1.rn, r2.rn, r3.rn, r4.rn, hb⟩
set_option maxHeartbeats 4000000 in
theorem d_DrawPathClash (A : Option Addr) (len cap : Nat) (w : World) (hA : BytesAt w.heap.size w A len) (hl : len ≤ 1048576) (hc : len ≤ cap) (hm : cap ≤ 9223372036854775807) :
    Calls Try.prog 33 #[.slice A len cap] w (TwoDr w) := by
  have hx := (Bx.new w [.slice none 0 0, .slice none 0 0] 31).alloc (.cells #[.slice none 0 0, .slice none 0 0] 31)
  have hz := Bx.new (w.alloc (.cells #[.slice none 0 0, .slice none 0 0] 31)) [.slice none 0 0, .slice none 0 0] 31
  simp only [World.size_alloc] at hz
  have hA1 : BytesAt ((w.alloc (.cells #[.slice none 0 0, .slice none 0 0] 31)).alloc (.cells #[.slice none 0 0, .slice none 0 0] 31)).heap.size ((w.alloc (.cells #[.slice none 0 0, .slice none 0 0] 31)).alloc (.cells #[.slice none 0 0, .slice none 0 0] 31)) A len := fun hn => by
    obtain ⟨b, off, e, hb, hc⟩ := hA hn
    exact ⟨b, off, e, by simp; omega, fun i hi => by
      obtain ⟨v, hv, hcc⟩ := hc i hi
      exact ⟨v, hv, (World.cell?_alloc_lt _ _ ⟨b, off + i, none⟩ (by simp; omega)).trans ((World.cell?_alloc_lt w _ ⟨b, off + i, none⟩ hb).trans hcc)⟩⟩
  have H1 := Lib.hid hA1
  clear hA hA1
  go_enter Try.func33, Try.ntmps33
  go_wp2_with fail
  refine (open_any A len cap _ H1.out hl hc hm).mono ?_
  rintro e w1 ⟨rfl, hR, hbq⟩
  have hx := hx.call hbq
  have hz := hz.call hbq
  have hb : Below w.heap.size w w1 := bl (show Below w.heap.size w ((w.alloc (.cells #[.slice none 0 0, .slice none 0 0] 31)).alloc (.cells #[.slice none 0 0, .slice none 0 0] 31)) by go_grown) (Nat.le_refl _) hbq
  simp only [World.size_alloc] at hR
  have hRl := hR.lt
  clear hbq H1
  go_wp2_with fail
  refine (one_any _ _ 0 _ hR (by omega)).mono ?_
  rintro e w2 ⟨n, a1, n1, c1, f1, a2, n2, c2, f2, q, rfl, hn, hn1, hn2, r1, r2, hR, hq, hg⟩
  have hx := hx.grown hg (by simp; omega)
  have hz := hz.grown hg (by simp)
  have hb := gb_bl hb (by omega) (by omega) hg
  have hs2 := hg.size
  have hy := Bx.new w2 [.slice a1 n1 c1, .slice a2 n2 c2] 31
  have hx := hx.alloc (.cells #[.slice a1 n1 c1, .slice a2 n2 c2] 31)
  have hz := hz.alloc (.cells #[.slice a1 n1 c1, .slice a2 n2 c2] 31)
  have r1 := r1.alloc (.cells #[.slice a1 n1 c1, .slice a2 n2 c2] 31)
  have r2 := r2.alloc (.cells #[.slice a1 n1 c1, .slice a2 n2 c2] 31)
  have hR := hR.alloc (.cells #[.slice a1 n1 c1, .slice a2 n2 c2] 31)
  have hb : Below w.heap.size w (w2.alloc (.cells #[.slice a1 n1 c1, .slice a2 n2 c2] 31)) := by go_grown
  have Y0 := hy.cell (i := 0) (by simp)
  have Y1 := hy.cell (i := 1) (by simp)
  have ly := hy.lt
  simp only [List.getElem_cons_zero, List.getElem_cons_succ] at Y0 Y1
  have ne1 : w.heap.size ≠ w2.heap.size := by omega
  have ne2 : w2.heap.size ≠ w.heap.size := by omega
  have ne3 : w.heap.size + 1 ≠ w2.heap.size := by omega
  have ne4 : w2.heap.size ≠ w.heap.size + 1 := by omega
  have lW : w2.heap.size + 1 = (w2.alloc (.cells #[.slice a1 n1 c1, .slice a2 n2 c2] 31)).heap.size := by simp
  have HX := Lib.hid hx
  have HY := Lib.hid hy
  have HZ := Lib.hid hz
  have HR := Lib.hid hR
  have R1 := Lib.hid r1
  have R2 := Lib.hid r2
  have HB := Lib.hid hb
  have LW := Lib.hid lW
  clear hx hy hR r1 r2 hb hg hz lW
  go_wp2
  generalize hW : w2.alloc (.cells #[.slice a1 n1 c1, .slice a2 n2 c2] 31) = W at *
  have lW : w2.heap.size + 1 = W.heap.size := LW.out
  have lW2 : w2.heap.size < W.heap.size := by omega
  clear lW hW LW
  go_region_held3 (fun V => V.cell? ⟨w2.heap.size, 0, none⟩ = some (.slice a1 n1 c1) ∧ V.cell? ⟨w2.heap.size, 1, none⟩ = some (.slice a2 n2 c2)) (go_keep)
    ((go_at_call 63; refine (path_any (w.heap.size + 1 + 1) (w.heap.size + 1 + 1) q n _ (Rd.drew HR.out) (by omega) hn).mono ?_; rintro e w4 ⟨b1, m1, d1, g1, b2, m2, d2, g2, q2, rfl, hm1, hm2, r3, r4, hR4, hq4, hg4⟩; have hx4 := Bx.grown (w := W.drew) HX.out hg4 (by simp; omega); have hy4 := Bx.grown (w := W.drew) HY.out hg4 (by simp; omega); have hz4 := Bx.grown (w := W.drew) HZ.out hg4 (by simp); have lz := hg4.size; (try simp only [World.size_drew] at lz r3 r4); have VS : Hid (TwoW w a1 n1 a2 n2 b1 m1 b2 m2 w4) := ⟨⟨_, (Rl.grown (w := W.drew) R1.out (by omega) hg4).low (by omega)⟩, ⟨_, (Rl.grown (w := W.drew) R2.out (by omega) hg4).low (by omega)⟩, ⟨_, r3.low (by omega)⟩, ⟨_, r4.low (by omega)⟩, gb_bl (w := W.drew) HB.out.drew (by simp; omega) (by omega) hg4⟩; have X0 := hx4.cell (i := 0) (by simp); have X1 := hx4.cell (i := 1) (by simp); have X2 := hx4.frz 0; have X3 := hx4.frz 1; have lx := hx4.lt; have Z0 := hz4.cell (i := 0) (by simp); have Z1 := hz4.cell (i := 1) (by simp); have Z2 := hz4.frz 0; have Z3 := hz4.frz 1; have lzz := hz4.lt; have Y0 := hy4.cell (i := 0) (by simp); have Y1 := hy4.cell (i := 1) (by simp); have ly := hy4.lt; simp only [List.getElem_cons_zero, List.getElem_cons_succ] at X0 X1 Y0 Y1 Z0 Z1; clear hx4 hy4 hz4 hR4 hg4 r3 r4))
  all_goals
    clear HX HY HZ HR R1 R2 HB
    go_wp2
    refine bodyPost_ret (by simp [results, Try.results33, go_sem, *]; rfl) rfl ?_
    first
      | exact TwoW.fin (TwoW.store (TwoW.store (TwoW.store (TwoW.store VS.out (by simp) (by simp) _) (by simp) (by simp) _) (by simp) (by simp) _) (by simp) (by simp) _) hn ⟨hn1, hn2, hm1, hm2⟩
      | exact (TwoW.fin (TwoW.store (TwoW.store (TwoW.store (TwoW.store VS.out (by simp) (by simp) _) (by simp) (by simp) _) (by simp) (by simp) _) (by simp) (by simp) _) hn ⟨hn1, hn2, hm1, hm2⟩).drew
end Go.Proofs.Ytjppkcfbhhjniaa
