/-
  Contract of the program's PathsFit.
-/
import Derived.Test.YtjppkcfbhhjniaaPathFt
namespace Go.Proofs.Ytjppkcfbhhjniaa
open Go.RowKit
set_option linter.unusedVariables false

/-- The first j are in. -/
def part (j : Nat) (f : Nat → Int) : Nat → Int := fun i => if i < j then f i else 0
theorem part_step (j : Nat) (f : Nat → Int) (i : Nat) : (if i = j then f j else part j f i) = part (j + 1) f i := by
  unfold part
  by_cases e : i = j
  · subst e; rw [if_pos rfl, if_pos (by omega)]
  · rw [if_neg e]
    by_cases h : i < j
    · rw [if_pos h, if_pos (by omega)]
    · rw [if_neg h, if_neg (by omega)]
theorem part_all {r i : Nat} {f : Nat → Int} (h : i < r) : part r f i = f i := if_pos h
def FitM (w : World) (r : Nat) (s : Value) (wx : World) : Prop :=
  ∃ B g1 g2 : Nat, s = .pointer (some ⟨B, 0, none⟩) ∧ Bx wx w.heap.size [.slice none 0 0, .slice none 0 0] ∧ Bx wx B [.slice (some ⟨g1, 0, none⟩) r r, .slice (some ⟨g2, 0, none⟩) r r] ∧ Ow wx g1 (some ⟨g1, 0, none⟩) r (fun _ => 0) ∧ Ow wx g2 (some ⟨g2, 0, none⟩) r (fun _ => 0) ∧
    (g1 ≠ g2 ∧ g1 ≠ B ∧ g2 ≠ B ∧ w.heap.size < g1 ∧ w.heap.size < g2 ∧ w.heap.size < B ∧ g1 < wx.heap.size ∧ g2 < wx.heap.size) ∧ Below w.heap.size w wx
theorem al0 (w : World) (a b c : Obj) : (((w.alloc a).alloc b).alloc c).heap[w.heap.size]? = some a := by
  rw [Go.Deep.blk_alloc_lt _ _ _ (by simp; omega), Go.Deep.blk_alloc_lt _ _ _ (by simp), Go.Deep.blk_alloc_new]
theorem al1 (w : World) (a b c : Obj) : (((w.alloc a).alloc b).alloc c).heap[w.heap.size + 1]? = some b := by
  have h := Go.Deep.blk_alloc_new (w.alloc a) b
  rw [World.size_alloc] at h
  rw [Go.Deep.blk_alloc_lt _ _ _ (by simp), h]
theorem al2 (w : World) (a b c : Obj) : (((w.alloc a).alloc b).alloc c).heap[w.heap.size + 1 + 1]? = some c := by
  have h := Go.Deep.blk_alloc_new ((w.alloc a).alloc b) c
  rwa [World.size_alloc, World.size_alloc] at h
theorem ow_made {w : World} {b r : Nat} {T : TypeId} (h : w.heap[b]? = some (.cells (madeCells #[.int .i64 0] r) T)) : Ow w b (some ⟨b, 0, none⟩) r (fun _ => 0) :=
  Ow.of_row (T := T) (m := r) ⟨_, h, by simp [size_madeCells], fun i hi => by simp [madeCells, hi, Nat.mod_one]⟩ (Nat.le_refl _)
theorem fitM_mk {w w2 W : World} {r B g1 g2 : Nat} {T U V : TypeId} (hx0 : Bx w2 w.heap.size [.slice none 0 0, .slice none 0 0]) (hz : w.heap.size < w2.heap.size) (hb : Below w.heap.size w w2) (hW : Below w2.heap.size w2 W)
    (e1 : W.heap[g1]? = some (.cells (madeCells #[.int .i64 0] r) T)) (e2 : W.heap[g2]? = some (.cells (madeCells #[.int .i64 0] r) U)) (e3 : W.heap[B]? = some (.cells #[.slice (some ⟨g1, 0, none⟩) r r, .slice (some ⟨g2, 0, none⟩) r r] V))
    (hne : g1 ≠ g2 ∧ g1 ≠ B ∧ g2 ≠ B) (hl : w2.heap.size ≤ g1 ∧ w2.heap.size ≤ g2 ∧ w2.heap.size ≤ B) : FitM w r (.pointer (some ⟨B, 0, none⟩)) W :=
  ⟨B, g1, g2, rfl, hx0.call hW, ⟨V, e3⟩, ow_made e1, ow_made e2, ⟨hne.1, hne.2.1, hne.2.2, by omega, by omega, by omega, lt_of_block e1, lt_of_block e2⟩, bl hb (by omega) hW⟩
set_option maxHeartbeats 4000000 in
theorem iFit_go (A : Option Addr) (m c : Nat) (D : Nat → PD) (R : Option Addr) (r d : Nat) (f : Nat → Int) (frm : Int) (w : World) (h : PsRn w w.heap.size A m D) (hR : Rn w w.heap.size R r f) (hv : pathsV r D m = true) (hr : runsV r r f) (hfr : 0 ≤ frm) :
    Calls Try.prog 42 #[.int .i64 (r : Int), .slice A m c, .int .i64 frm, .slice R r d] w (FitRes w D m r f frm) := by
  obtain ⟨i0, ji0, jz0, jz1, jz2⟩ := info_parts intInfo
  obtain ⟨hn, _, hru⟩ := hr
  have hm8 : m ≤ 8 := (pathsV_iff.1 hv).2.2.1
  have hmk := fun W : World => run_make (P := Try.prog) W 27 3 i0 (.int .i64 0) Try.underlying27 ji0 jz0 .i64 .i64 r r (by omega) (by omega) (by rw [jz2]; omega) (by omega)
  simp only [Int.toNat_natCast, jz1, Nat.mul_one] at hmk
  have PV := Lib.hid hv
  have RU := Lib.hid hru
  have RV := Lib.hid (show true = decide (runsV r r f) from (decide_eq_true ⟨hn, rfl, hru⟩).symm)
  have P0 := Lib.hid h
  have R0 := Lib.hid hR
  have P1 := Lib.hid (h.top (.cells #[.slice none 0 0, .slice none 0 0] 31))
  have R1 := Lib.hid (hR.top (.cells #[.slice none 0 0, .slice none 0 0] 31))
  have hx0 := Bx.new w [.slice none 0 0, .slice none 0 0] 31
  clear hv hru h hR ji0 jz0 jz1 jz2
  go_enter Try.func42, Try.ntmps42
  go_wp2_with fail
  refine (iPathsV_is true A m c D r _ PV.out P1.out (by omega)).mono ?_
  rintro e w1 ⟨rfl, hn1⟩
  have hb : Below w.heap.size w w1 := bl (show Below w.heap.size w (w.alloc (.cells #[.slice none 0 0, .slice none 0 0] 31)) by go_grown) (Nat.le_refl _) hn1
  have hx0 := hx0.call hn1
  have R2 := Lib.hid (R1.out.topb hn1)
  clear hn1 P1 R1
  go_wp2_with fail
  refine (iRuns true R r d f r _ RV.out R2.out (by omega)).mono ?_
  rintro e w2 ⟨rfl, hn2⟩
  have hx0 := hx0.call hn2
  have hb := bl hb (Nat.le_refl _) hn2
  have hz1 : w.heap.size < w2.heap.size := hx0.lt
  clear hn2 R2
  go_wp2_with fail
  go_cut [10] from 27 to 31 (fun s10 wx => FitM w r s10 wx)
  case first =>
    go_region
    all_goals
      go_wp2_with fail
      go_meet
      refine fitM_mk (g1 := ?_) (g2 := ?_) (T := 3) (U := 3) (V := 31) hx0 hz1 hb (by go_grown) ?_ ?_ ?_ ?_ ?_
      rotate_left 4
      first | exact al0 _ _ _ _ | exact al1 _ _ _ _ | exact al2 _ _ _ _
      omega
      omega
      all_goals first | exact al0 _ _ _ _ | exact al1 _ _ _ _ | exact al2 _ _ _ _
  case rest =>
    clear hx0 hb hmk
    obtain ⟨B, g1, g2, rfl, hx0, hx8, o1, o2, ⟨hne, hg1, hg2, hl1, hl2, hlB, hh1, hh2⟩, hb⟩ := hcut
    go_wp2_with fail
    go_loopw [11, 35] (fun t i wr => ∃ (j : Nat) (u : Int), j ≤ r ∧ i = .int .i64 j ∧ t = .int .i64 u ∧ Hid (rdy D m f frm j = u) ∧ Hid (okTo D m f frm j) ∧ Bx wr w.heap.size [.slice none 0 0, .slice none 0 0] ∧ Bx wr B [.slice (some ⟨g1, 0, none⟩) r r, .slice (some ⟨g2, 0, none⟩) r r] ∧ Ow wr g1 (some ⟨g1, 0, none⟩) r (part j (inT D m f frm)) ∧ Ow wr g2 (some ⟨g2, 0, none⟩) r (part j fun k => rdy D m f frm (k + 1)) ∧ Below w.heap.size w wr) (fun _ i _ => r - (intOf i).toNat)
    case atStart => exact ⟨0, frm, Nat.zero_le _, rfl, rfl, rfl, (fun k hk => absurd hk (by omega)), hx0, hx8, o1.congr (fun i _ => by simp [part]), o2.congr (fun i _ => by simp [part]), hb⟩
    case round =>
      clear hx0 o1 o2 hx8 hb
      obtain ⟨j, u, hj, rfl, rfl, hU, hok, hx0, hx8, o1, o2, hb⟩ := hrel
      by_cases hlt : j < r
      · obtain ⟨dr, dro, rfl, hdr, hcr⟩ := (R0.out.below hb) (by omega)
        have zr := hcr j hlt
        have hs := hb.size
        have hfb := RU.out j hlt
        have hrb := rdy_bd hok.out hfr (fun k hk => (RU.out k (by omega)).1)
        rw [hU.out] at hrb
        have j0 : (0 : Int) ≤ (j : Int) := by omega
        have j1 : (j : Int) < (r : Int) := by omega
        have FO := Lib.hid (show freeOK r D m j u (f j) from ⟨hasS_yes PV.out ⟨by omega, by omega⟩, hfb.1, hfb.2, hrb⟩)
        have hIS := inT_is D m f frm j
        rw [hU.out] at hIS
        have IS := Lib.hid hIS
        have PP := Lib.hid ((P0.out.below hb).up hs)
        obtain ⟨v, hvv⟩ : ∃ v, inT D m f frm j = v := ⟨_, rfl⟩
        have HVV := Lib.hid hvv
        clear hIS hcr
        cases hob : okB D m f frm j
        · have HOB := Lib.hid hob
          have hno : Hid (¬ okTo D m f frm r) := fun x => by have := x j hlt; rw [HOB.out] at this; cases this
          clear hob hvv o1 o2 hx8
          go_wp2_with fail
          refine (iFree_yes A m c D r j u (f j) _ PP.out FO.out v false (by have := IS.out; rwa [HVV.out, HOB.out] at this)).mono ?_
          rintro e w3 ⟨rfl, hn3⟩
          have hx0 := hx0.call hn3
          have hb := bl hb (Nat.le_refl _) hn3
          have y0 := hx0.cell (i := 0) (by simp)
          have y1 := hx0.cell (i := 1) (by simp)
          have y2 := hx0.frz 0
          have y3 := hx0.frz 1
          have hlx := hx0.lt
          simp only [List.getElem_cons_zero, List.getElem_cons_succ] at y0 y1
          clear hn3 zr PP
          go_wp2
          refine bodyPost_ret (by simp [results, Try.results42, go_sem, *]; rfl) rfl ?_
          exact .inr ⟨hno.out, rfl, by go_grown⟩
        · have hbd := inT_bd hob
          rw [hvv, hU.out] at hbd
          obtain ⟨hv1, hv2⟩ := hbd
          have HOB := Lib.hid hob
          have hok2 : Hid (okTo D m f frm (j + 1)) := okTo_step hok.out hob
          have hU2 : Hid (rdy D m f frm (j + 1) = v + f j) := by show rdy D m f frm (j + 1) = _; rw [rdy_succ, hvv]
          have hw1 : IntKind.i64.wrap (v + f j) = v + f j := IntWalk.i64_in _ (by omega)
          have Q1 := Lib.hid o1
          have Q2 := Lib.hid o2
          clear hob hvv o1 o2
          go_wp2_with fail
          refine (iFree_yes A m c D r j u (f j) _ PP.out FO.out v true (by have := IS.out; rwa [HVV.out, HOB.out] at this)).mono ?_
          rintro e w3 ⟨rfl, hn3⟩
          have hx0 := hx0.call hn3
          have hx8 := hx8.call hn3
          have hb := bl hb (Nat.le_refl _) hn3
          have o1 := Q1.out.call hn3
          have o2 := Q2.out.call hn3
          have x0 := hx8.cell (i := 0) (by simp)
          have x1 := hx8.cell (i := 1) (by simp)
          simp only [List.getElem_cons_zero, List.getElem_cons_succ] at x0 x1
          obtain ⟨z1, e1, hl1', hf1, hc1⟩ := o1 (by omega)
          obtain ⟨z2, e2, hl2', hf2, hc2⟩ := o2 (by omega)
          simp only [Option.some.injEq, Addr.mk.injEq, true_and, and_true] at e1 e2
          subst e1 e2
          have hcell1 := hc1 j hlt
          have hcell2 := hc2 j hlt
          rw [Nat.zero_add] at hcell1 hcell2
          have hff1 := hf1 j
          have hff2 := hf2 j
          have s1 := Lib.hid (((o1.set (k := j) (v := v)).congr (g := part (j + 1) (inT D m f frm)) (fun i _ => by rw [← part_step, HVV.out])).store (a := ⟨g2, j, none⟩) hne (.int .i64 (v + f j)))
          have s2 := Lib.hid (((o2.store (a := ⟨g1, j, none⟩) (Ne.symm hne) (.int .i64 v)).set (k := j) (v := v + f j)).congr (g := part (j + 1) fun k => rdy D m f frm (k + 1)) (fun i _ => by rw [← part_step, hU2.out]))
          have hne2 : g2 ≠ g1 := Ne.symm hne
          have hne5 : B ≠ g1 := Ne.symm hg1
          have hne6 : B ≠ g2 := Ne.symm hg2
          clear hc1 hc2 hf1 hf2 o1 o2 Q1 Q2 hn3 zr PP
          go_wp2
          go_roundw
          case rel => exact ⟨j + 1, v + f j, by omega, by go_num, rfl, hU2, hok2, (hx0.other (a := ⟨g1, j, none⟩) (by simp; omega) _).other (a := ⟨g2, j, none⟩) (by simp; omega) _, (hx8.other (a := ⟨g1, j, none⟩) hne5 _).other (a := ⟨g2, j, none⟩) hne6 _, by simpa using s1.out, by simpa using s2.out, by go_grown⟩
          case measure => simp [intOf]; omega
      · obtain rfl : j = r := by omega
        have Z1 := Lib.hid (o1.congr (g := inT D m f frm) (fun i hi => part_all hi))
        have Z2 := Lib.hid (o2.congr (g := fun k => rdy D m f frm (k + 1)) (fun i hi => part_all hi))
        have q1 : g1 < wr.heap.size := by obtain ⟨_, _, q, _⟩ := o1 (by omega); exact q
        have q2 : g2 < wr.heap.size := by obtain ⟨_, _, q, _⟩ := o2 (by omega); exact q
        have x0 := hx8.cell (i := 0) (by simp)
        have x1 := hx8.cell (i := 1) (by simp)
        have y0 := hx0.cell (i := 0) (by simp)
        have y1 := hx0.cell (i := 1) (by simp)
        have y2 := hx0.frz 0
        have y3 := hx0.frz 1
        simp only [List.getElem_cons_zero, List.getElem_cons_succ] at x0 x1 y0 y1
        have hwzr := hx0.lt
        clear o1 o2
        go_wp2
        refine bodyPost_ret (by simp [results, Try.results42, go_sem, *]; rfl) rfl ?_
        refine .inl ⟨hok.out, _, _, _, _, rfl, ?_, by go_grown⟩
        exact OwP.mk (g1 := g1) (g2 := g2) ⟨by omega, by simp; omega⟩ ⟨by omega, by simp; omega⟩ hne
          ((Z1.out.store (a := ⟨w.heap.size, 0, none⟩) (by simp; omega) _).store (a := ⟨w.heap.size, 1, none⟩) (by simp; omega) _)
          ((Z2.out.store (a := ⟨w.heap.size, 0, none⟩) (by simp; omega) _).store (a := ⟨w.heap.size, 1, none⟩) (by simp; omega) _)
end Go.Proofs.Ytjppkcfbhhjniaa
