/-
  Contracts of the draws of one path, of a path and minutes.
-/
import Derived.Test.YtjppkcfbhhjniaaDrawPa
namespace Go.Proofs.Ytjppkcfbhhjniaa
open Go.RowKit Go.Deep
set_option linter.unusedVariables false

/-- What a draw of a number of sections and a path leaves. -/
def OneDr (B : Nat) (w : World) (R q0 : Nat) (e : Ending) (w' : World) : Prop :=
  ∃ (n : Nat) (a1 : Option Addr) (n1 c1 : Nat) (f1 : Nat → Int) (a2 : Option Addr) (n2 c2 : Nat) (f2 : Nat → Int) (q : Nat), e = .returned (.tuple #[.int .i64 (n : Int), .agg #[.slice a1 n1 c1, .slice a2 n2 c2]]) ∧ (1 ≤ n ∧ n ≤ 4) ∧ n1 ≤ 5 ∧ n2 ≤ 5 ∧ Rl w' w.heap.size a1 n1 f1 ∧ Rl w' w.heap.size a2 n2 f2 ∧ Rd B w' R q ∧ q ≤ q0 ∧ w.grownBy w' (some R)
set_option maxHeartbeats 1000000 in
theorem one_any (B R p : Nat) (w : World) (h : Rd B w R p) (hp : p ≤ 40000) :
    Calls Try.prog 60 #[.pointer (some ⟨R, 0, none⟩)] w (OneDr B w R (p + 50)) := by
  have hlt := h.lt
  have hbs := h.base
  have h1 := Lib.hid (h.alloc (.cells #[.slice none 0 0, .slice none 0 0] 31))
  have hx := Bx.new w [.slice none 0 0, .slice none 0 0] 31
  have hg0 : w.grownBy (w.alloc (.cells #[.slice none 0 0, .slice none 0 0] 31)) (some R) := gb_alloc (gb_refl w _) _
  clear h
  go_enter Try.func60, Try.ntmps60
  go_wp2_with fail
  refine (pick_any B R p 4 _ h1.out (by omega) (by omega) (by omega)).mono ?_
  rintro e w1 ⟨v, rfl, hv0, hv1, hR, hg⟩
  obtain ⟨m, rfl⟩ := Int.eq_ofNat_of_zero_le hv0
  have hx := hx.grown hg (by simp; omega)
  have hg := gb_trans hg0 hg
  have hs1 := hg.size
  have hl1 := hx.lt
  have HX := Lib.hid hx
  have HG := Lib.hid hg
  have HR := Lib.hid hR
  clear hx hg hg0 hR h1
  go_wp2_with fail
  have e1 : (1 : Int) + (m : Int) = ((m + 1 : Nat) : Int) := by omega
  rw [e1]
  refine (path_any B R (p + 1) (m + 1) _ HR.out (by omega) ⟨by omega, by omega⟩).mono ?_
  rintro e w2 ⟨a1, n1, c1, f1, a2, n2, c2, f2, q, rfl, hn1, hn2, r1, r2, hR, hq, hg⟩
  have hx := HX.out.grown hg (by simp; omega)
  have hg := gb_trans HG.out hg
  have x0 := hx.cell (i := 0) (by simp)
  have x1 := hx.cell (i := 1) (by simp)
  have x2 := hx.frz 0
  have x3 := hx.frz 1
  have lx := hx.lt
  simp only [List.getElem_cons_zero, List.getElem_cons_succ] at x0 x1
  have R1 := Lib.hid r1
  have R2 := Lib.hid r2
  have R3 := Lib.hid hR
  have R4 := Lib.hid hg
  clear hx r1 r2 hR hg HX HG HR e1
  go_wp2
  refine bodyPost_ret (by simp [results, Try.results60, go_sem, *]; rfl) rfl ?_
  exact ⟨m + 1, a1, n1, c1, f1, a2, n2, c2, f2, q, rfl, ⟨by omega, by omega⟩, hn1, hn2, ((R1.out.store (a := ⟨w.heap.size, 0, none⟩) (by simp; omega) _).store (a := ⟨w.heap.size, 1, none⟩) (by simp; omega) _).low (by omega), ((R2.out.store (a := ⟨w.heap.size, 0, none⟩) (by simp; omega) _).store (a := ⟨w.heap.size, 1, none⟩) (by simp; omega) _).low (by omega),
    (R3.out.other (a := ⟨w.heap.size, 0, none⟩) (by simp; omega) (by simp; omega) _).other (a := ⟨w.heap.size, 1, none⟩) (by simp; omega) (by simp; omega) _, by omega, gb_store (gb_store R4.out (q := ⟨w.heap.size, 0, none⟩) (by simp) _) (q := ⟨w.heap.size, 1, none⟩) (by simp) _⟩
/-- What a draw of a number of sections, a path and minutes leaves. -/
def LateDr (w : World) (e : Ending) (w' : World) : Prop :=
  ∃ (n : Nat) (a1 : Option Addr) (n1 c1 : Nat) (f1 : Nat → Int) (a2 : Option Addr) (n2 c2 : Nat) (f2 : Nat → Int) (k : Int), e = .returned (.tuple #[.int .i64 (n : Int), .agg #[.slice a1 n1 c1, .slice a2 n2 c2], .int .i64 k]) ∧ (1 ≤ n ∧ n ≤ 4) ∧ n1 ≤ 5 ∧ n2 ≤ 5 ∧ Rn w' w'.heap.size a1 n1 f1 ∧ Rn w' w'.heap.size a2 n2 f2 ∧ Below w.heap.size w w'
theorem LateDr.drew {w : World} {e : Ending} {w' : World} (h : LateDr w e w') : LateDr w e w'.drew := by
  obtain ⟨n, a1, n1, c1, f1, a2, n2, c2, f2, k, he, hn, h1, h2, r1, r2, hb⟩ := h
  exact ⟨n, a1, n1, c1, f1, a2, n2, c2, f2, k, he, hn, h1, h2, r1, r2, hb.drew⟩
theorem LateDr.alloc {w : World} {e : Ending} {w' : World} (h : LateDr w e w') (o : Obj) : LateDr w e (w'.alloc o) := by
  obtain ⟨n, a1, n1, c1, f1, a2, n2, c2, f2, k, he, hn, h1, h2, r1, r2, hb⟩ := h
  exact ⟨n, a1, n1, c1, f1, a2, n2, c2, f2, k, he, hn, h1, h2, r1.top o, r2.top o, hb.alloc hb.size o⟩
theorem three_at {w : World} {b : Nat} {x y z : Int} (h : Bx w b [.int .i64 x, .int .i64 y, .int .i64 z]) (j : Nat) (hj : j < 3) : ∃ v : Int, w.cell? ⟨b, j, none⟩ = some (.int .i64 v) := by
  rcases (show j = 0 ∨ j = 1 ∨ j = 2 by omega) with rfl | rfl | rfl
  · exact ⟨x, h.cell (i := 0) (by simp)⟩
  · exact ⟨y, h.cell (i := 1) (by simp)⟩
  · exact ⟨z, h.cell (i := 2) (by simp)⟩
theorem three_cell (w : World) (x y z : Int) (T : TypeId) (j : Nat) (hj : j < 3) : ∃ v : Int, (w.alloc (.cells #[.int .i64 x, .int .i64 y, .int .i64 z] T)).cell? ⟨w.heap.size, j, none⟩ = some (.int .i64 v) := three_at (Bx.new w [.int .i64 x, .int .i64 y, .int .i64 z] T) j hj
def sel3 (j : Nat) (x y z : Int) : Int := match j with
  | 0 => x
  | 1 => y
  | _ => z
theorem three_all (w : World) (j : Nat) (hj : j < 3) : ∀ (x y z : Int) (T : TypeId), (w.alloc (.cells #[.int .i64 x, .int .i64 y, .int .i64 z] T)).cell? ⟨w.heap.size, j, none⟩ = some (.int .i64 (sel3 j x y z)) := fun x y z T => by
  have h := Bx.new w [.int .i64 x, .int .i64 y, .int .i64 z] T
  rcases (show j = 0 ∨ j = 1 ∨ j = 2 by omega) with rfl | rfl | rfl
  · exact h.cell (i := 0) (by simp)
  · exact h.cell (i := 1) (by simp)
  · exact h.cell (i := 2) (by simp)
theorem three_arr (j : Nat) (hj : j < 3) : ∀ x y z : Int, (#[Value.int .i64 x, .int .i64 y, .int .i64 z] : Array Value)[j]? = some (.int .i64 (sel3 j x y z)) := fun x y z => by
  rcases (show j = 0 ∨ j = 1 ∨ j = 2 by omega) with rfl | rfl | rfl <;> rfl
theorem three_lst (j : Nat) (hj : j < 3) : ∀ x y z : Int, ([Value.int .i64 x, .int .i64 y, .int .i64 z] : List Value)[j]? = some (.int .i64 (sel3 j x y z)) := fun x y z => by
  rcases (show j = 0 ∨ j = 1 ∨ j = 2 by omega) with rfl | rfl | rfl <;> rfl
/-- What holds ahead of the last rows. -/
def LateW (w : World) (a1 : Option Addr) (n1 : Nat) (a2 : Option Addr) (n2 : Nat) (wx : World) : Prop := (∃ f, Rl wx (w.heap.size + 1) a1 n1 f) ∧ (∃ f, Rl wx (w.heap.size + 1) a2 n2 f) ∧ Below w.heap.size w wx ∧ w.heap.size < wx.heap.size
theorem LateW.alloc {w wx : World} {a1 a2 : Option Addr} {n1 n2 : Nat} (h : LateW w a1 n1 a2 n2 wx) (o : Obj) : LateW w a1 n1 a2 n2 (wx.alloc o) := by
  obtain ⟨⟨f, r1⟩, ⟨g, r2⟩, hb, hl⟩ := h
  exact ⟨⟨f, r1.alloc o⟩, ⟨g, r2.alloc o⟩, hb.alloc (by omega) o, by simp; omega⟩
theorem LateW.fin {w wx : World} {n n1 c1 n2 c2 : Nat} {a1 a2 : Option Addr} {k : Int} (h : LateW w a1 n1 a2 n2 wx) (hn : 1 ≤ n ∧ n ≤ 4) (h1 : n1 ≤ 5) (h2 : n2 ≤ 5) :
    LateDr w (.returned (.tuple #[.int .i64 (n : Int), .agg #[.slice a1 n1 c1, .slice a2 n2 c2], .int .i64 k])) ((wx.setCell ⟨w.heap.size, 0, none⟩ (.slice a1 n1 c1)).setCell ⟨w.heap.size, 1, none⟩ (.slice a2 n2 c2)) := by
  obtain ⟨⟨f, r1⟩, ⟨g, r2⟩, hb, hl⟩ := h
  exact ⟨n, a1, n1, c1, f, a2, n2, c2, g, k, rfl, hn, h1, h2, ((r1.store (a := ⟨w.heap.size, 0, none⟩) (by simp) _).store (a := ⟨w.heap.size, 1, none⟩) (by simp) _).rn, ((r2.store (a := ⟨w.heap.size, 0, none⟩) (by simp) _).store (a := ⟨w.heap.size, 1, none⟩) (by simp) _).rn, (hb.setCell (by simp) _).setCell (by simp) _⟩
/-- The end: the path is stored into the result's box. -/
theorem lateDr_end {w wx : World} {n n1 c1 n2 c2 X : Nat} {a1 a2 : Option Addr} {f1 f2 : Nat → Int} {k : Int} (hX : w.heap.size = X) (hn : 1 ≤ n ∧ n ≤ 4) (h1 : n1 ≤ 5) (h2 : n2 ≤ 5) (r1 : Rl wx (X + 1) a1 n1 f1) (r2 : Rl wx (X + 1) a2 n2 f2) (hb : Below w.heap.size w wx) :
    LateDr w (.returned (.tuple #[.int .i64 (n : Int), .agg #[.slice a1 n1 c1, .slice a2 n2 c2], .int .i64 k])) ((wx.setCell ⟨X, 0, none⟩ (.slice a1 n1 c1)).setCell ⟨X, 1, none⟩ (.slice a2 n2 c2)) := by
  subst hX
  exact ⟨n, a1, n1, c1, f1, a2, n2, c2, f2, k, rfl, hn, h1, h2, ((r1.store (a := ⟨w.heap.size, 0, none⟩) (by simp) _).store (a := ⟨w.heap.size, 1, none⟩) (by simp) _).rn, ((r2.store (a := ⟨w.heap.size, 0, none⟩) (by simp) _).store (a := ⟨w.heap.size, 1, none⟩) (by simp) _).rn, (hb.setCell (by simp) _).setCell (by simp) _⟩
set_option maxHeartbeats 4000000 in
theorem d_DrawPathLate (A : Option Addr) (len cap : Nat) (w : World) (hA : BytesAt w.heap.size w A len) (hl : len ≤ 1048576) (hc : len ≤ cap) (hm : cap ≤ 9223372036854775807) :
    Calls Try.prog 28 #[.slice A len cap] w (LateDr w) := by
  have hx := Bx.new w [.slice none 0 0, .slice none 0 0] 31
  have hA1 : BytesAt (w.alloc (.cells #[.slice none 0 0, .slice none 0 0] 31)).heap.size (w.alloc (.cells #[.slice none 0 0, .slice none 0 0] 31)) A len := fun hn => by
    obtain ⟨b, off, e, hb, hc⟩ := hA hn
    exact ⟨b, off, e, by simp; omega, fun i hi => by
      obtain ⟨v, hv, hcc⟩ := hc i hi
      exact ⟨v, hv, (World.cell?_alloc_lt w _ ⟨b, off + i, none⟩ hb).trans hcc⟩⟩
  have H1 := Lib.hid hA1
  clear hA hA1
  go_enter Try.func28, Try.ntmps28
  go_wp2_with fail
  refine (open_any A len cap _ H1.out hl hc hm).mono ?_
  rintro e w1 ⟨rfl, hR, hbq⟩
  have hx := hx.call hbq
  have hb : Below w.heap.size w w1 := bl (show Below w.heap.size w (w.alloc (.cells #[.slice none 0 0, .slice none 0 0] 31)) by go_grown) (Nat.le_refl _) hbq
  simp only [World.size_alloc] at hR
  have hRl := hR.lt
  clear hbq H1
  go_wp2_with fail
  refine (one_any _ _ 0 _ hR (by omega)).mono ?_
  rintro e w2 ⟨n, a1, n1, c1, f1, a2, n2, c2, f2, q, rfl, hn, hn1, hn2, r1, r2, hR, hq, hg⟩
  have hx := hx.grown hg (by simp)
  have hb := gb_bl hb (by omega) (by omega) hg
  have hs2 := hg.size
  have hy := Bx.new w2 [.slice a1 n1 c1, .slice a2 n2 c2] 31
  have hx := hx.alloc (.cells #[.slice a1 n1 c1, .slice a2 n2 c2] 31)
  have r1 := r1.alloc (.cells #[.slice a1 n1 c1, .slice a2 n2 c2] 31)
  have r2 := r2.alloc (.cells #[.slice a1 n1 c1, .slice a2 n2 c2] 31)
  have hR := hR.alloc (.cells #[.slice a1 n1 c1, .slice a2 n2 c2] 31)
  have hb : Below w.heap.size w (w2.alloc (.cells #[.slice a1 n1 c1, .slice a2 n2 c2] 31)) := by go_grown
  clear hg
  go_wp2_with fail
  refine (pick_any _ _ q 16 _ hR (by omega) (by omega) (by omega)).mono ?_
  rintro e w3 ⟨v, rfl, hva, hvb, hR, hg⟩
  have hs3 := hg.size
  simp only [World.size_alloc] at hs3
  have hx := hx.grown hg (by simp)
  have hy := hy.grown hg (by simp; omega)
  have r1 := r1.grown (by omega) hg
  have r2 := r2.grown (by omega) hg
  have hb := gb_bl hb (by simp; omega) (by omega) hg
  have X0 := hx.cell (i := 0) (by simp)
  have X1 := hx.cell (i := 1) (by simp)
  have X2 := hx.frz 0
  have X3 := hx.frz 1
  have lx := hx.lt
  have Y0 := hy.cell (i := 0) (by simp)
  have Y1 := hy.cell (i := 1) (by simp)
  have ly := hy.lt
  simp only [List.getElem_cons_zero, List.getElem_cons_succ] at X0 X1 Y0 Y1
  have hXY : w.heap.size < w2.heap.size := by omega
  have hne1 : w.heap.size ≠ w2.heap.size := by omega
  have hne2 : w2.heap.size ≠ w.heap.size := by omega
  have HX := Lib.hid hx
  have HY := Lib.hid hy
  have HR := Lib.hid hR
  have R1 := Lib.hid r1
  have R2 := Lib.hid r2
  have HB := Lib.hid hb
  clear hx hy hR r1 r2 hb hg
  by_cases h0 : v = 0
  · subst h0
    have hbx := Bx.new w3.drew [.int .i64 9223372036854775807, .int .i64 (-9223372036854775808), .int .i64 1990] 3
    simp only [World.size_drew] at hbx
    go_wp2
    go_region_with ((go_at_call 61; refine (pick_any (w.heap.size + 1) (w.heap.size + 1) (q + 1) 3 _ ?_ (by omega) (by omega) (by omega)).mono ?_; (first | exact Rd.drew HR.out | exact Rd.alloc (Rd.drew HR.out) _); rintro e w4 ⟨v4, rfl, a4, b4, hR4, hg4⟩; obtain ⟨jn, rfl⟩ := Int.eq_ofNat_of_zero_le a4; (first | (have hx4 := Bx.grown (w := w3.drew) HX.out hg4 (by simp); have hy4 := Bx.grown (w := w3.drew) HY.out hg4 (by simp; omega); have S1 := Lib.hid (Rl.grown (w := w3.drew) R1.out (by omega) hg4); have S2 := Lib.hid (Rl.grown (w := w3.drew) R2.out (by omega) hg4); have HB4 := Lib.hid (gb_bl (w := w3.drew) HB.out.drew (by simp; omega) (by omega) hg4); have hxv := three_all w4 jn (by omega); have hxa := three_arr jn (by omega); have hxl := three_lst jn (by omega)) | (have hx4 := Bx.grown (Bx.alloc (w := w3.drew) HX.out _) hg4 (by simp); have hy4 := Bx.grown (Bx.alloc (w := w3.drew) HY.out _) hg4 (by simp; omega); have S1 := Lib.hid (Rl.grown (Rl.alloc (w := w3.drew) R1.out _) (by omega) hg4); have S2 := Lib.hid (Rl.grown (Rl.alloc (w := w3.drew) R2.out _) (by omega) hg4); have HB4 := Lib.hid (gb_bl (HB.out.drew.alloc (by simp; omega) _) (by simp; omega) (by omega) hg4); obtain ⟨xv, hxv⟩ := three_at (hbx.grown hg4 (by simp; omega)) jn (by omega))); have b5 : (0 : Int) ≤ (jn : Int) := Int.natCast_nonneg _; have lw4 := hg4.size; have X0 := hx4.cell (i := 0) (by simp); have X1 := hx4.cell (i := 1) (by simp); have X2 := hx4.frz 0; have X3 := hx4.frz 1; have lx := hx4.lt; have Y0 := hy4.cell (i := 0) (by simp); have Y1 := hy4.cell (i := 1) (by simp); have ly := hy4.lt; simp only [List.getElem_cons_zero, List.getElem_cons_succ] at X0 X1 Y0 Y1; have VS : Hid (LateW w a1 n1 a2 n2 w4) := ⟨⟨_, S1.out.low (by omega)⟩, ⟨_, S2.out.low (by omega)⟩, HB4.out, lx⟩; clear hx4 hy4 hR4 hg4 S1 S2 HB4))
    all_goals
      clear HX HY HR R1 R2 HB
      go_wp2
      refine bodyPost_ret (by simp [results, Try.results28, go_sem, *]; rfl) rfl ?_
      first | exact VS.out.fin hn hn1 hn2 | exact (VS.out.fin hn hn1 hn2).drew | exact (VS.out.fin hn hn1 hn2).alloc _ | exact ((VS.out.fin hn hn1 hn2).alloc _).drew
  · have d0 : (v == 0) = false := beq_eq_false_iff_ne.2 h0
    clear h0
    go_wp2
    go_region_held3 (fun V => V.cell? ⟨w2.heap.size, 0, none⟩ = some (.slice a1 n1 c1) ∧ V.cell? ⟨w2.heap.size, 1, none⟩ = some (.slice a2 n2 c2)) (go_keep)
      ((go_at_call 61; refine (pick_any (w.heap.size + 1) (w.heap.size + 1) (q + 1) 61 _ (Rd.drew HR.out) (by omega) (by omega) (by omega)).mono ?_; rintro e w4 ⟨v4, rfl, a4, b4, hR4, hg4⟩; have hx4 := Bx.grown (w := w3.drew) HX.out hg4 (by simp); have hy4 := Bx.grown (w := w3.drew) HY.out hg4 (by simp; omega); have S1 := Lib.hid (Rl.grown (w := w3.drew) R1.out (by omega) hg4); have S2 := Lib.hid (Rl.grown (w := w3.drew) R2.out (by omega) hg4); have HB4 := Lib.hid (gb_bl (w := w3.drew) HB.out.drew (by simp; omega) (by omega) hg4); have X0 := hx4.cell (i := 0) (by simp); have X1 := hx4.cell (i := 1) (by simp); have X2 := hx4.frz 0; have X3 := hx4.frz 1; have lx := hx4.lt; have Y0 := hy4.cell (i := 0) (by simp); have Y1 := hy4.cell (i := 1) (by simp); have ly := hy4.lt; simp only [List.getElem_cons_zero, List.getElem_cons_succ] at X0 X1 Y0 Y1; have VS : Hid (LateW w a1 n1 a2 n2 w4) := ⟨⟨_, S1.out.low (by omega)⟩, ⟨_, S2.out.low (by omega)⟩, HB4.out, lx⟩; clear hx4 hy4 hR4 hg4 S1 S2 HB4))
    all_goals
      clear HX HY HR R1 R2 HB
      go_wp2
      refine bodyPost_ret (by simp [results, Try.results28, go_sem, *]; rfl) rfl ?_
      first | exact VS.out.fin hn hn1 hn2 | exact (VS.out.fin hn hn1 hn2).drew | exact (VS.out.fin hn hn1 hn2).alloc _ | exact ((VS.out.fin hn hn1 hn2).alloc _).drew
end Go.Proofs.Ytjppkcfbhhjniaa
