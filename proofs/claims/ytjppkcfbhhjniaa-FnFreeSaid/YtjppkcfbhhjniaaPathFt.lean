/-
  Contract of the reference's PathsFit.
-/
import Derived.Test.YtjppkcfbhhjniaaK1
import Derived.Test.YtjppkcfbhhjniaaPathRu
import Derived.Test.YtjppkcfbhhjniaaPathLS
namespace Go.Proofs.Ytjppkcfbhhjniaa
open Go.RowKit
set_option linter.unusedVariables false

/-- What is handed back. -/
def FitRes (w : World) (D : Nat → PD) (m r : Nat) (f : Nat → Int) (frm : Int) (e : Ending) (w' : World) : Prop :=
  (okTo D m f frm r ∧ PathRes w true r (inT D m f frm) r (fun k => rdy D m f frm (k + 1)) e w') ∨ (¬ okTo D m f frm r ∧ NoPath w e w')
def FitR (w : World) (T : TypeId) (B : Nat) (D : Nat → PD) (m r : Nat) (f : Nat → Int) (frm : Int) (t i : Value) (wr : World) : Prop :=
  ∃ (j g1 k1 g2 k2 : Nat) (u : Int), j ≤ r ∧ i = .int .i64 j ∧ t = .int .i64 u ∧ Hid (rdy D m f frm j = u) ∧ Hid (okTo D m f frm j) ∧ Bx wr w.heap.size [.slice none 0 0, .slice none 0 0] ∧ Bx wr B [.slice (some ⟨g1, 0, none⟩) j k1, .slice (some ⟨g2, 0, none⟩) j k2] ∧
    wr.ownsRow (w.heap.size + 1) T 1 (.slice (some ⟨g1, 0, none⟩) j k1) j (cellsN j (inT D m f frm)) ∧ wr.ownsRow (w.heap.size + 1) T 1 (.slice (some ⟨g2, 0, none⟩) j k2) j (cellsN j fun k => rdy D m f frm (k + 1)) ∧
    (g1 ≠ g2 ∧ g1 ≠ B ∧ g2 ≠ B) ∧ Below w.heap.size w wr
theorem owns_call {w w' : World} {base e n s : Nat} {v : Value} {xs : List Value} (h : w.ownsRow base e s v n xs) (hb : Below w.heap.size w w') : w'.ownsRow base e s v n xs := by
  refine ⟨h.1, ?_⟩
  rcases h.2 with hn | ⟨g, cap, cur, rfl, hb1, hgg, rest⟩
  · exact .inl hn
  · exact .inr ⟨g, cap, cur, rfl, hb1, (hb.block g (lt_of_block hgg)).trans hgg, rest⟩
set_option maxHeartbeats 4000000 in
theorem sFit_go (A : Option Addr) (m c : Nat) (D : Nat → PD) (R : Option Addr) (r d : Nat) (f : Nat → Int) (frm : Int) (w : World) (h : PsRn w w.heap.size A m D) (hR : Rn w w.heap.size R r f) (hv : pathsV r D m = true) (hr : runsV r r f) (hfr : 0 ≤ frm) :
    Calls Try.prog 43 #[.int .i64 (r : Int), .slice A m c, .int .i64 frm, .slice R r d] w (FitRes w D m r f frm) := by
  obtain ⟨i0, ji0, jz0, jz1, jz2⟩ := info_parts intInfo
  obtain ⟨hn, _, hru⟩ := hr
  have hm8 : m ≤ 8 := (pathsV_iff.1 hv).2.2.1
  have PV := Lib.hid hv
  have RU := Lib.hid hru
  have RV := Lib.hid (show true = decide (runsV r r f) from (decide_eq_true ⟨hn, rfl, hru⟩).symm)
  have P0 := Lib.hid h
  have R0 := Lib.hid hR
  have P1 := Lib.hid (h.top (.cells #[.slice none 0 0, .slice none 0 0] 31))
  have R1 := Lib.hid (hR.top (.cells #[.slice none 0 0, .slice none 0 0] 31))
  have hx0 := Bx.new w [.slice none 0 0, .slice none 0 0] 31
  clear hv hru h hR
  go_enter Try.func43, Try.ntmps43
  go_wp2_with fail
  refine (sPathsV_is true A m c D r _ PV.out P1.out (by omega)).mono ?_
  rintro e w1 ⟨rfl, hn1⟩
  have hb : Below w.heap.size w w1 := bl (show Below w.heap.size w (w.alloc (.cells #[.slice none 0 0, .slice none 0 0] 31)) by go_grown) (Nat.le_refl _) hn1
  have hx0 := hx0.call hn1
  have R2 := Lib.hid (R1.out.topb hn1)
  clear hn1 P1 R1
  go_wp2_with fail
  refine (sRuns true R r d f r _ RV.out R2.out (by omega)).mono ?_
  rintro e w2 ⟨rfl, hn2⟩
  have hx0 := hx0.call hn2
  have hb := bl hb (Nat.le_refl _) hn2
  have hz1 : w.heap.size + 1 ≤ w2.heap.size := hx0.lt
  clear hn2 R2
  have o1 := World.ownsRow_made (base := w.heap.size + 1) (size := 1) (e := 3) w2 #[] 0 hz1 (by unfold maxLen; omega) (by simp)
  have o2 := World.ownsRow_made (base := w.heap.size + 1) (size := 1) (e := 3) (w2.alloc (.cells #[] 3)) #[] 0 (by simp; omega) (by unfold maxLen; omega) (by simp)
  have o1 := (o1.alloc (.cells #[] 3)).alloc (.cells #[.slice (some ⟨w2.heap.size, 0, none⟩) 0 0, .slice (some ⟨w2.heap.size + 1, 0, none⟩) 0 0] 31)
  have o2 := o2.alloc (.cells #[.slice (some ⟨w2.heap.size, 0, none⟩) 0 0, .slice (some ⟨w2.heap.size + 1, 0, none⟩) 0 0] 31)
  simp only [World.size_alloc] at o2
  have hx8 := Bx.new ((w2.alloc (.cells #[] 3)).alloc (.cells #[] 3)) [.slice (some ⟨w2.heap.size, 0, none⟩) 0 0, .slice (some ⟨w2.heap.size + 1, 0, none⟩) 0 0] 31
  simp only [World.size_alloc] at hx8
  go_wp2_with fail
  go_loopw [2, 11] (fun t i wr => FitR w 3 (w2.heap.size + 1 + 1) D m r f frm t i wr) (fun _ i _ => r - (intOf i).toNat)
  case atStart => exact ⟨0, w2.heap.size, 0, w2.heap.size + 1, 0, frm, Nat.zero_le _, rfl, rfl, rfl, (fun k hk => absurd hk (by omega)), ((hx0.alloc _).alloc _).alloc _, hx8, o1, o2, ⟨by omega, by omega, by omega⟩, by go_grown⟩
  case round =>
    clear hx0 o1 o2 hx8 hb
    obtain ⟨j, g1, k1, g2, k2, u, hj, rfl, rfl, hU, hok, hx0, hx8, o1, o2, ⟨hne, hg1, hg2⟩, hb⟩ := hrel
    have x0 := hx8.cell (i := 0) (by simp)
    have x1 := hx8.cell (i := 1) (by simp)
    have y2 := hx0.frz 0
    have y3 := hx0.frz 1
    have y0 := hx0.cell (i := 0) (by simp)
    have y1 := hx0.cell (i := 1) (by simp)
    simp only [List.getElem_cons_zero, List.getElem_cons_succ] at x0 x1 y0 y1
    by_cases hlt : j < r
    · obtain ⟨dr, dro, rfl, hdr, hcr⟩ := (R0.out.below hb) (by omega)
      have zr := hcr j hlt
      have hs := hb.size
      have hfb := RU.out j hlt
      have hrb := rdy_bd hok.out hfr (fun k hk => (RU.out k (by omega)).1)
      rw [hU.out] at hrb
      have j0 : (0 : Int) ≤ (j : Int) := by omega
      have j1 : (j : Int) < (r : Int) := by omega
      have hFO : freeOK r D m j u (f j) := ⟨hasS_yes PV.out ⟨by omega, by omega⟩, hfb.1, hfb.2, hrb⟩
      have hIS := inT_is D m f frm j
      rw [hU.out] at hIS
      have FO := Lib.hid hFO
      have IS := Lib.hid hIS
      have PP := Lib.hid ((P0.out.below hb).up hs)
      obtain ⟨v, hvv⟩ : ∃ v, inT D m f frm j = v := ⟨_, rfl⟩
      have HVV := Lib.hid hvv
      have O1 := Lib.hid o1
      have O2 := Lib.hid o2
      clear hFO hIS hcr o1 o2
      cases hob : okB D m f frm j
      · have HOB := Lib.hid hob
        have hno : Hid (¬ okTo D m f frm r) := fun x => by have := x j hlt; rw [HOB.out] at this; cases this
        clear hob hvv
        go_wp2_with fail
        refine (sFree_yes A m c D r j u (f j) _ PP.out FO.out v false (by have := IS.out; rwa [HVV.out, HOB.out] at this)).mono ?_
        rintro e w3 ⟨rfl, hn3⟩
        have hx0 := hx0.call hn3
        have hb := bl hb (Nat.le_refl _) hn3
        have y0 := hx0.cell (i := 0) (by simp)
        have y1 := hx0.cell (i := 1) (by simp)
        have y2 := hx0.frz 0
        have y3 := hx0.frz 1
        have hlx := hx0.lt
        simp only [List.getElem_cons_zero, List.getElem_cons_succ] at y0 y1
        clear hn3 hx8 x0 x1 O1 O2 zr PP
        go_wp2
        refine bodyPost_ret (by simp [results, Try.results43, go_sem, *]; rfl) rfl ?_
        exact .inr ⟨hno.out, rfl, by go_grown⟩
      · have hbd := inT_bd hob
        rw [hvv, hU.out] at hbd
        obtain ⟨hv1, hv2⟩ := hbd
        have HOB := Lib.hid hob
        have hok2 : Hid (okTo D m f frm (j + 1)) := okTo_step hok.out hob
        have hU2 : Hid (rdy D m f frm (j + 1) = v + f j) := by show rdy D m f frm (j + 1) = _; rw [rdy_succ, hvv]
        have hw1 : IntKind.i64.wrap (v + f j) = v + f j := IntWalk.i64_in _ (by omega)
        clear hob hvv
        go_wp2_with fail
        refine (sFree_yes A m c D r j u (f j) _ PP.out FO.out v true (by have := IS.out; rwa [HVV.out, HOB.out] at this)).mono ?_
        rintro e w3 ⟨rfl, hn3⟩
        have hx0 := hx0.call hn3
        have hx8 := hx8.call hn3
        have hb := bl hb (Nat.le_refl _) hn3
        have A1 := Lib.hid (owns_call O1.out hn3)
        have A2 := Lib.hid (owns_call O2.out hn3)
        have zr := (hn3.cell (p := ⟨dr, dro + j, none⟩) (by simp; omega)).trans zr
        have hgl1 := (A1.out.lt g1 rfl).2
        have hgl2 := (A2.out.lt g2 rfl).2
        have hc1 := owns_cap A1.out
        have hc2 := owns_cap A2.out
        have hs3 := hb.size
        have hlx := hx0.lt
        have hlx8 := hx8.lt
        clear hn3 x0 x1 y0 y1 y2 y3 O1 O2 PP hs
        have x0 := hx8.cell (i := 0) (by simp)
        have x1 := hx8.cell (i := 1) (by simp)
        simp only [List.getElem_cons_zero, List.getElem_cons_succ] at x0 x1
        go_wp2_with (at_builtin; refine wpList_append_lies _ rfl _ _ _ rfl (w.heap.size + 1) 3 i0 (.int .i64 0) 1 8 Try.underlying27 ji0 jz0 jz1 jz2 rfl (by omega) (.slice (some ⟨g1, 0, none⟩) j k1) j (cellsN j (inT D m f frm)) rfl (A1.out.alloc _) ⟨w3.heap.size, 0, none⟩ 1 1 [.int .i64 v] rfl rfl ?c1 ?c2 (by omega) ?c3 ?c4 ?c5 (w3.heap.size + 1) ?c6 ?_)
        case c1 => exact World.news_of_block (cs := #[.int .i64 v]) (t := 3) (fr := (0, 0)) (heap_alloc_new w3 _)
        case c2 => simp [Value.oneCell']
        case c3 => unfold maxLen; omega
        case c4 => omega
        case c5 => simp; omega
        case c6 => simp
        intro g3 k3 w4 hown3 hg3 hat3 hlt3
        have hg3 : (w3.alloc (.cells #[.int .i64 v] 3)).grownBy w4 (some g1) := hg3
        have hat3 : g3 = g1 ∨ g3 = w3.heap.size + 1 := by rcases hat3 with h | h; (simp [Value.ownBlock] at h; exact .inl h.symm); exact .inr h
        have hs4 := hg3.size
        simp only [World.size_alloc] at hs4
        have hx0 := (hx0.alloc (.cells #[.int .i64 v] 3)).grown hg3 (by simp; omega)
        have hx8 := (hx8.alloc (.cells #[.int .i64 v] 3)).grown hg3 (by simp; omega)
        have A2 := Lib.hid (owns_grown (A2.out.alloc (.cells #[.int .i64 v] 3)) hg3 (by simp [Value.ownBlock]; omega))
        have hb : Below w.heap.size w w4 := gb_bl (w := w3.alloc (.cells #[.int .i64 v] 3)) (hb.alloc hs3 _) (by simp; omega) (by omega) hg3
        obtain ⟨dr', dro', edr, _, hcr⟩ := ((R0.out.below hb) (by omega))
        simp only [Option.some.injEq, Addr.mk.injEq, and_true] at edr
        obtain ⟨rfl, rfl⟩ := edr
        have zr := hcr j hlt
        clear hcr
        have x0 := hx8.cell (i := 0) (by simp)
        have x1 := hx8.cell (i := 1) (by simp)
        have f0 := hx8.frz 0
        simp only [List.getElem_cons_zero, List.getElem_cons_succ] at x0 x1
        have hlx0 := hx0.lt
        have hlx8' := hx8.lt
        have hdb : dr ≠ w2.heap.size + 1 + 1 := by omega
        have own2 := (owns_store A2.out (a := ⟨w2.heap.size + 1 + 1, 0, none⟩) (by simp [Value.ownBlock]; omega) (.slice (some ⟨g3, 0, none⟩) (j + 1) k3)).alloc (.cells #[.int .i64 (v + f j)] 3)
        have OW2 := Lib.hid own2
        have OW3 := Lib.hid hown3
        have hg3l := (hown3.lt g3 rfl).2
        have hgl2' := (A2.out.lt g2 rfl).2
        have hs4' := hb.size
        clear own2 hown3 hg3 A1 A2
        go_wp2_with (at_builtin; refine wpList_append_lies _ rfl _ _ _ rfl (w.heap.size + 1) 3 i0 (.int .i64 0) 1 8 Try.underlying27 ji0 jz0 jz1 jz2 rfl (by omega) (.slice (some ⟨g2, 0, none⟩) j k2) j (cellsN j fun k => rdy D m f frm (k + 1)) rfl OW2.out ⟨w4.heap.size, 0, none⟩ 1 1 [.int .i64 (v + f j)] rfl rfl ?e1 ?e2 (by omega) ?e3 ?e4 ?e5 (w4.heap.size + 1) ?e6 ?_)
        case e1 => exact World.news_of_block (cs := #[.int .i64 (v + f j)]) (t := 3) (fr := (0, 0)) (by have := heap_alloc_new (w4.setCell ⟨w2.heap.size + 1 + 1, 0, none⟩ (.slice (some ⟨g3, 0, none⟩) (j + 1) k3)) (.cells #[.int .i64 (v + f j)] 3); simpa [World.setCell] using this)
        case e2 => simp [Value.oneCell']
        case e3 => unfold maxLen; omega
        case e4 => omega
        case e5 => simp; omega
        case e6 => simp
        intro g4 k4 w5 hown4 hg4 hat4 hlt4
        have hg4 : ((w4.setCell ⟨w2.heap.size + 1 + 1, 0, none⟩ (.slice (some ⟨g3, 0, none⟩) (j + 1) k3)).alloc (.cells #[.int .i64 (v + f j)] 3)).grownBy w5 (some g2) := hg4
        have hat4 : g4 = g2 ∨ g4 = w4.heap.size + 1 := by rcases hat4 with h | h; (simp [Value.ownBlock] at h; exact .inl h.symm); exact .inr h
        have hs5 := hg4.size
        simp only [World.size_alloc, World.size_setCell] at hs5
        have hx0 := ((hx0.other (a := ⟨w2.heap.size + 1 + 1, 0, none⟩) (by simp; omega) _).alloc _).grown hg4 (by simp; omega)
        have hx8 := ((hx8.set 0 (.slice (some ⟨g3, 0, none⟩) (j + 1) k3)).alloc _).grown hg4 (by simp; omega)
        have hbz : Below w.heap.size w w5 := gb_bl (w := (w4.setCell ⟨w2.heap.size + 1 + 1, 0, none⟩ (.slice (some ⟨g3, 0, none⟩) (j + 1) k3)).alloc (.cells #[.int .i64 (v + f j)] 3)) ((hb.setCell (by simp; omega) _).alloc (by simpa using hs4') _) (by simp; omega) (by omega) hg4
        have HH : FitR w 3 (w2.heap.size + 1 + 1) D m r f frm (.int .i64 (v + f j)) (.int .i64 ((j : Int) + 1)) (w5.setCell ⟨w2.heap.size + 1 + 1, 1, none⟩ (.slice (some ⟨g4, 0, none⟩) (j + 1) k4)) := by
          refine ⟨j + 1, g3, k3, g4, k4, v + f j, by omega, by go_num, rfl, hU2, hok2, hx0.other (a := ⟨w2.heap.size + 1 + 1, 1, none⟩) (by simp; omega) _, hx8.set 1 _, ?_, ?_, ⟨by omega, by omega, by omega⟩, hbz.setCell (by simp; omega) _⟩
          · rw [cellsN_succ, HVV.out]
            exact owns_store (owns_grown ((owns_store OW3.out (a := ⟨w2.heap.size + 1 + 1, 0, none⟩) (by simp [Value.ownBlock]; omega) _).alloc _) hg4 (by simp [Value.ownBlock]; omega)) (by simp [Value.ownBlock]; omega) _
          · rw [cellsN_succ, hU2.out]
            exact owns_store hown4 (by simp [Value.ownBlock]; omega) _
        have f1 := hx8.frz 1
        have x9 := hx8.cell (i := 1) (by simp)
        simp only [List.set_cons_zero, List.getElem_cons_zero, List.getElem_cons_succ] at x9
        clear hown4 hg4 hx0 hx8 OW2 OW3 hbz hb
        go_wp2_with fail
        go_roundw
        case rel => exact HH
        case measure => simp [intOf]; omega
    · obtain rfl : j = r := by omega
      have w1' := Ow.of_owns o1 (fun i hi => cellsN_at hi)
      have w2' := Ow.of_owns o2 (fun i hi => cellsN_at hi)
      have hgl1 := (o1.lt g1 rfl).2
      have hgl2 := (o2.lt g2 rfl).2
      have hgb1 := (owns_cap o1).2.2
      have hgb2 := (owns_cap o2).2.2
      have Z1 := Lib.hid w1'
      have Z2 := Lib.hid w2'
      have hwz8 := hx8.lt
      have hwzr := hx0.lt
      clear w1' w2' o1 o2
      go_wp2
      refine bodyPost_ret (by simp [results, Try.results43, go_sem, *]; rfl) rfl ?_
      refine .inl ⟨hok.out, _, _, _, _, rfl, ?_, by go_grown⟩
      exact OwP.mk (g1 := g1) (g2 := g2) ⟨by omega, by simp; omega⟩ ⟨by omega, by simp; omega⟩ hne
        ((Z1.out.store (a := ⟨w.heap.size, 0, none⟩) (by simp; omega) _).store (a := ⟨w.heap.size, 1, none⟩) (by simp; omega) _)
        ((Z2.out.store (a := ⟨w.heap.size, 0, none⟩) (by simp; omega) _).store (a := ⟨w.heap.size, 1, none⟩) (by simp; omega) _)
end Go.Proofs.Ytjppkcfbhhjniaa
