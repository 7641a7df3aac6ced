/-
  Contracts of PathLate, the reference's.
-/
import Derived.Test.YtjppkcfbhhjniaaPathL
import Derived.Deep.RegionLaw
import Derived.Deep.DrawnRows
import Derived.Deep.DeepCutAuto
namespace Go.Proofs.Ytjppkcfbhhjniaa
open Go.RowKit
set_option linter.unusedVariables false

set_option maxHeartbeats 2000000 in
theorem sLate_no (a1 a2 : Option Addr) (n1 c1 n2 c2 : Nat) (f1 f2 : Nat → Int) (n k : Int) (w : World) (r1 : Rn w w.heap.size a1 n1 f1) (r2 : Rn w w.heap.size a2 n2 f2) (hv : pathV n ⟨n1, f1, n2, f2⟩ = false ∨ ¬ (-2000 ≤ k ∧ k ≤ 2000)) :
    Calls Try.prog 30 #[.int .i64 n, .agg #[.slice a1 n1 c1, .slice a2 n2 c2], .int .i64 k] w (NoPath w) := by
  have R1 := Lib.hid ((r1.top (.cells #[.slice a1 n1 c1, .slice a2 n2 c2] 31)).top (.cells #[.slice none 0 0, .slice none 0 0] 31))
  have R2 := Lib.hid ((r2.top (.cells #[.slice a1 n1 c1, .slice a2 n2 c2] 31)).top (.cells #[.slice none 0 0, .slice none 0 0] 31))
  cases hp : pathV n ⟨n1, f1, n2, f2⟩
  · have P := Lib.hid hp
    clear hv hp
    go_enter Try.func30, Try.ntmps30
    go_wp2_with fail
    refine (sValid_is false a1 a2 n1 c1 n2 c2 f1 f2 n _ P.out R1.out R2.out).mono ?_
    rintro e w1 ⟨rfl, hn⟩
    have hb1 : Below w.heap.size w w1 := bl (by go_grown) (Nat.le_refl _) hn
    have hc1_0 := fun o => hn.cell (p := ⟨w.heap.size + 1, o, none⟩) (by first | omega | (simp; done) | (simp; omega))
    have hf1_0 := fun o => hn.frozen (p := ⟨w.heap.size + 1, o, none⟩) (by first | omega | (simp; done) | (simp; omega))
    have hl1_0 : w.heap.size + 1 < w1.heap.size := Nat.lt_of_lt_of_le (by first | omega | (simp; done) | (simp; omega)) hn.size
    (try simp only [World.size_drew, World.cell?_drew, World.frozen?_drew] at hc1_0 hf1_0)
    have hz1 := hn.size
    (try simp at hz1)
    clear hn
    go_wp2
    refine bodyPost_ret (by simp [results, Try.results30, go_sem, *]; rfl) rfl ?_
    exact ⟨rfl, (by go_grown <;> (refine below_dn ?_ _ <;> go_grown <;> (refine below_dn ?_ _ <;> go_grown)))⟩
  · have P := Lib.hid hp
    have hk : ¬ (-2000 ≤ k ∧ k ≤ 2000) := by
      rcases hv with hv | hv
      · rw [hp] at hv; cases hv
      · exact hv
    clear hv hp
    go_enter Try.func30, Try.ntmps30
    go_wp2_with fail
    refine (sValid_is true a1 a2 n1 c1 n2 c2 f1 f2 n _ P.out R1.out R2.out).mono ?_
    rintro e w1 ⟨rfl, hn⟩
    have hb1 : Below w.heap.size w w1 := bl (by go_grown) (Nat.le_refl _) hn
    have hc1_0 := fun o => hn.cell (p := ⟨w.heap.size + 1, o, none⟩) (by first | omega | (simp; done) | (simp; omega))
    have hf1_0 := fun o => hn.frozen (p := ⟨w.heap.size + 1, o, none⟩) (by first | omega | (simp; done) | (simp; omega))
    have hl1_0 : w.heap.size + 1 < w1.heap.size := Nat.lt_of_lt_of_le (by first | omega | (simp; done) | (simp; omega)) hn.size
    (try simp only [World.size_drew, World.cell?_drew, World.frozen?_drew] at hc1_0 hf1_0)
    have hz1 := hn.size
    (try simp at hz1)
    clear hn
    go_wp2_with (go_at_call 51; refine (sIn_no _ _ _ _ hk).mono ?_; rintro e w' ⟨rfl, rfl⟩)
    refine bodyPost_ret (by simp [results, Try.results30, go_sem, *]; rfl) rfl ?_
    exact ⟨rfl, (by go_grown <;> (refine below_dn ?_ _ <;> go_grown <;> (refine below_dn ?_ _ <;> go_grown)))⟩
/-- What holds at each round's head. -/
def LateR (w : World) (T : TypeId) (B m : Nat) (a1 a2 : Option Addr) (c1 c2 : Nat) (f1 f2 : Nat → Int) (k : Int) (i : Value) (wr : World) : Prop :=
  ∃ j g1 k1 g2 k2 : Nat, j ≤ m ∧ i = .int .i64 j ∧ Bx wr w.heap.size [.slice a1 m c1, .slice a2 m c2] ∧ Bx wr (w.heap.size + 1) [.slice none 0 0, .slice none 0 0] ∧ Bx wr B [.slice (some ⟨g1, 0, none⟩) j k1, .slice (some ⟨g2, 0, none⟩) j k2] ∧
    wr.ownsRow (w.heap.size + 2) T 1 (.slice (some ⟨g1, 0, none⟩) j k1) j (cellsN j fun i => f1 i + k) ∧ wr.ownsRow (w.heap.size + 2) T 1 (.slice (some ⟨g2, 0, none⟩) j k2) j (cellsN j fun i => f2 i + k) ∧
    (g1 ≠ g2 ∧ g1 ≠ B ∧ g2 ≠ B) ∧ Rn wr w.heap.size a1 m f1 ∧ Rn wr w.heap.size a2 m f2 ∧ Below w.heap.size w wr
/-- What holds behind the first append of a round. -/
def LateH (w : World) (T : TypeId) (B m j g2 k2 : Nat) (a1 a2 : Option Addr) (c1 c2 : Nat) (f1 f2 : Nat → Int) (k : Int) (wr : World) : Prop :=
  ∃ g1 k1 : Nat, Bx wr w.heap.size [.slice a1 m c1, .slice a2 m c2] ∧ Bx wr (w.heap.size + 1) [.slice none 0 0, .slice none 0 0] ∧ Bx wr B [.slice (some ⟨g1, 0, none⟩) (j + 1) k1, .slice (some ⟨g2, 0, none⟩) j k2] ∧
    wr.ownsRow (w.heap.size + 2) T 1 (.slice (some ⟨g1, 0, none⟩) (j + 1) k1) (j + 1) (cellsN (j + 1) fun i => f1 i + k) ∧ wr.ownsRow (w.heap.size + 2) T 1 (.slice (some ⟨g2, 0, none⟩) j k2) j (cellsN j fun i => f2 i + k) ∧
    (g1 ≠ g2 ∧ g1 ≠ B ∧ g2 ≠ B) ∧ Rn wr w.heap.size a1 m f1 ∧ Rn wr w.heap.size a2 m f2 ∧ Below w.heap.size w wr
theorem cellsN_succ (n : Nat) (f : Nat → Int) : cellsN (n + 1) f = cellsN n f ++ [.int .i64 (f n)] := by simp [cellsN, List.range_succ]
set_option maxHeartbeats 4000000 in
theorem sLate_go (ok : Bool) (a1 a2 : Option Addr) (m c1 c2 : Nat) (f1 f2 : Nat → Int) (k : Int) (w : World) (r1 : Rn w w.heap.size a1 m f1) (r2 : Rn w w.heap.size a2 m f2) (hv : pathV m ⟨m, f1, m, f2⟩ = true) (hk : -2000 ≤ k ∧ k ≤ 2000)
    (hok : pathV m (lateD k ⟨m, f1, m, f2⟩) = ok) :
    Calls Try.prog 30 #[.int .i64 (m : Int), .agg #[.slice a1 m c1, .slice a2 m c2], .int .i64 k] w (LateP w ok m k f1 f2) := by
  obtain ⟨i0, ji0, jz0, jz1, jz2⟩ := info_parts intInfo
  have R1 := Lib.hid ((r1.top (.cells #[.slice a1 m c1, .slice a2 m c2] 31)).top (.cells #[.slice none 0 0, .slice none 0 0] 31))
  have R2 := Lib.hid ((r2.top (.cells #[.slice a1 m c1, .slice a2 m c2] 31)).top (.cells #[.slice none 0 0, .slice none 0 0] 31))
  have P := Lib.hid hv
  have OK := Lib.hid hok
  have hm := pathV_iff.1 hv
  have hm1 : 1 ≤ m ∧ m ≤ 5 := by omega
  clear hv hok hm
  go_enter Try.func30, Try.ntmps30
  go_wp2_with fail
  refine (sValid_is true a1 a2 m c1 m c2 f1 f2 m _ P.out R1.out R2.out).mono ?_
  rintro e w1 ⟨rfl, hn⟩
  have hb1 : Below w.heap.size w w1 := bl (by go_grown) (by first | exact Nat.le_refl _ | (simp; done) | (simp; omega)) hn
  have hx : Bx w1 w.heap.size [.slice a1 m c1, .slice a2 m c2] := Bx.call ((Bx.new w [.slice a1 m c1, .slice a2 m c2] 31).alloc _) hn
  have hxr : Bx w1 (w.heap.size + 1) [.slice none 0 0, .slice none 0 0] := Bx.call (by
    have h := Bx.new (w.alloc (.cells #[.slice a1 m c1, .slice a2 m c2] 31)) [.slice none 0 0, .slice none 0 0] 31
    simpa using h) hn
  have q1 := r1.below hb1
  have q2 := r2.below hb1
  have hz1 : w.heap.size + 2 ≤ w1.heap.size := by have := hn.size; simpa using this
  clear hn r1 r2 R1 R2
  go_wp2_with (go_at_call 51; refine (sIn_yes _ _ _ _ hk).mono ?_; rintro e w' ⟨rfl, rfl⟩)
  have o1 := World.ownsRow_made (base := w.heap.size + 2) (size := 1) (e := 3) w1 #[] 0 hz1 (by unfold maxLen; omega) (by simp)
  have o2 := World.ownsRow_made (base := w.heap.size + 2) (size := 1) (e := 3) (w1.alloc (.cells #[] 3)) #[] 0 (by simp; omega) (by unfold maxLen; omega) (by simp)
  have o1 := (o1.alloc (.cells #[] 3)).alloc (.cells #[.slice (some ⟨w1.heap.size, 0, none⟩) 0 0, .slice (some ⟨w1.heap.size + 1, 0, none⟩) 0 0] 31)
  have o2 := o2.alloc (.cells #[.slice (some ⟨w1.heap.size, 0, none⟩) 0 0, .slice (some ⟨w1.heap.size + 1, 0, none⟩) 0 0] 31)
  simp only [World.size_alloc] at o2
  have hx8 := Bx.new ((w1.alloc (.cells #[] 3)).alloc (.cells #[] 3)) [.slice (some ⟨w1.heap.size, 0, none⟩) 0 0, .slice (some ⟨w1.heap.size + 1, 0, none⟩) 0 0] 31
  simp only [World.size_alloc] at hx8
  go_loopw [9] (fun i wr => LateR w 3 (w1.heap.size + 1 + 1) m a1 a2 c1 c2 f1 f2 k i wr) (fun i _ => m - (intOf i).toNat)
  case atStart => exact ⟨0, w1.heap.size, 0, w1.heap.size + 1, 0, Nat.zero_le _, rfl, ((hx.alloc _).alloc _).alloc _, ((hxr.alloc _).alloc _).alloc _, hx8, o1, o2, ⟨by omega, by omega, by omega⟩, ((q1.alloc (by omega) _).alloc (by simp; omega) _).alloc (by simp; omega) _, ((q2.alloc (by omega) _).alloc (by simp; omega) _).alloc (by simp; omega) _, by go_grown⟩
  case round =>
    clear hx hxr q1 q2 o1 o2 hx8 hb1
    obtain ⟨j, g1, k1, g2, k2, hj, rfl, hx, hxr, hx8, o1, o2, ⟨hne, hg1, hg2⟩, q1, q2, hb⟩ := hrel
    have x0 := hx8.cell (i := 0) (by simp)
    have x1 := hx8.cell (i := 1) (by simp)
    have y0 := hx.cell (i := 0) (by simp)
    have y1 := hx.cell (i := 1) (by simp)
    simp only [List.getElem_cons_zero, List.getElem_cons_succ] at x0 x1 y0 y1
    by_cases hlt : j < m
    · obtain ⟨d1, z1, rfl, hl1, hc1⟩ := q1 (by omega)
      obtain ⟨d2, z2, rfl, hl2, hc2⟩ := q2 (by omega)
      have hcell1 := hc1 j hlt
      have hcell2 := hc2 j hlt
      have ht := pathV_times P.out (k := j) (by omega)
      have b1 : 0 ≤ f1 j := ht.1
      have b2 : f1 j < f2 j := ht.2.1
      have b3 : f2 j ≤ 2000 := ht.2.2
      have hj0 : (0 : Int) ≤ (j : Int) := by omega
      have hj1 : (j : Int) < (m : Int) := by omega
      clear hc1 hc2 ht
      go_wp2_with fail
      have hw1 : IntKind.i64.wrap (f1 j + k) = f1 j + k := IntWalk.i64_in _ (by omega)
      have O1 := Lib.hid o1
      have O2 := Lib.hid o2
      clear o1 o2
      have hwz := hx.lt
      have hwz8 := hx8.lt
      have hwzr := hxr.lt
      go_cut [38] from 28 to 39 (fun s38 wx => LateH w 3 (w1.heap.size + 1 + 1) m j g2 k2 (some ⟨d1, z1, none⟩) (some ⟨d2, z2, none⟩) c1 c2 f1 f2 k wx)
      case first =>
        go_region_law (first | (refine step_append_lies _ (by rfl) _ _ _ (by rfl) (w.heap.size + 2) 3 i0 (.int .i64 0) 1 8 Try.underlying27 ji0 jz0 jz1 jz2 rfl (by omega) (.slice (some ⟨g1, 0, none⟩) j k1) j (cellsN j fun i => f1 i + k) (by rfl) ((O1.out.alloc _).drew) ⟨wr.heap.size, 0, none⟩ 1 1 [.int .i64 (f1 j + k)] (by rfl) (by rfl) (World.news_of_block (cs := #[.int .i64 (f1 j + k)]) (t := 3) (fr := (0, 0)) (heap_alloc_new wr _)) (by simp [Value.oneCell']) (by omega) (by unfold maxLen; omega) (by omega) (by simp; omega) (wr.heap.size + 1) (by simp) ?_; intro gg cap w4 hown hgrow hat hlt4; have hx9 := (show Bx (wr.alloc (.cells #[.int .i64 (f1 j + k)] 3)).drew _ _ from hx8.alloc _).grown hgrow (by simp [Value.ownBlock]; omega); have h90 := hx9.cell (i := 0) (by simp); have h91 := hx9.frz 0; simp only [List.getElem_cons_zero] at h90))
        all_goals
          have hG : wr.grownBy w4 (some g1) := gb_trans (gb_drew (gb_alloc (gb_refl wr (some g1)) _)) hgrow
          have hgw := owns_cap O1.out
          have hgg : gg = g1 ∨ gg = wr.heap.size + 1 := by rcases hat with h | h; (simp [Value.ownBlock] at h; exact .inl h.symm); exact .inr h
          have hl1 := (O1.out.lt g1 rfl).2
          have hl2 := (O2.out.lt g2 rfl).2
          have HH : LateH w 3 (w1.heap.size + 1 + 1) m j g2 k2 (some ⟨d1, z1, none⟩) (some ⟨d2, z2, none⟩) c1 c2 f1 f2 k (w4.setCell ⟨w1.heap.size + 1 + 1, 0, none⟩ (.slice (some ⟨gg, 0, none⟩) (j + 1) cap)) := by
            refine ⟨gg, cap, (hx.grown hG (by simp; omega)).other (by simp; omega) _, (hxr.grown hG (by simp; omega)).other (by simp; omega) _, hx9.set 0 _, ?_, ?_, ⟨by omega, by omega, hg2⟩, ?_, ?_, ?_⟩
            · rw [cellsN_succ]; exact owns_store hown (by simp [Value.ownBlock]; omega) _
            · exact owns_store (owns_grown O2.out hG (by simp [Value.ownBlock]; omega)) (by simp [Value.ownBlock]; omega) _
            · exact (q1.grown (by omega) (by omega) hG).store (by simp; omega) _
            · exact (q2.grown (by omega) (by omega) hG).store (by simp; omega) _
            · exact (gb_bl hb (by omega) (by omega) hG).setCell (by simp; omega) _
          clear hgrow hat hown hx9 h90 h91 hG
          go_wp2_with fail
          go_meet
          exact HH
      case rest =>
        clear x0 x1 y0 y1 hcell1 hcell2 O1 O2 hx hxr hx8 q1 q2 hb hne hg1 hg2 hwz hwz8 hwzr hw1
        obtain ⟨h1, l1, hx, hxr, hx8, o1, o2, ⟨hne, hg1, hg2⟩, q1, q2, hb⟩ := hcut
        have x0 := hx8.cell (i := 0) (by simp)
        have x1 := hx8.cell (i := 1) (by simp)
        have y0 := hx.cell (i := 0) (by simp)
        have y1 := hx.cell (i := 1) (by simp)
        simp only [List.getElem_cons_zero, List.getElem_cons_succ] at x0 x1 y0 y1
        obtain ⟨d3, z3, e3, hl3, hc2⟩ := q2 (by omega)
        simp only [Option.some.injEq, Addr.mk.injEq, and_true] at e3
        obtain ⟨rfl, rfl⟩ := e3
        have hcell2 := hc2 j hlt
        clear hc2
        have O1 := Lib.hid o1
        have O2 := Lib.hid o2
        clear o1 o2
        have hwz := hx.lt
        have hwz8 := hx8.lt
        have hwzr := hxr.lt
        go_wp2_with fail
        have hw1 : IntKind.i64.wrap (f2 j + k) = f2 j + k := IntWalk.i64_in _ (by omega)
        go_region_law (first | (refine step_append_lies _ (by rfl) _ _ _ (by rfl) (w.heap.size + 2) 3 i0 (.int .i64 0) 1 8 Try.underlying27 ji0 jz0 jz1 jz2 rfl (by omega) (.slice (some ⟨g2, 0, none⟩) j k2) j (cellsN j fun i => f2 i + k) (by rfl) ((O2.out.alloc _).drew) ⟨wc.heap.size, 0, none⟩ 1 1 [.int .i64 (f2 j + k)] (by rfl) (by rfl) (World.news_of_block (cs := #[.int .i64 (f2 j + k)]) (t := 3) (fr := (0, 0)) (heap_alloc_new wc _)) (by simp [Value.oneCell']) (by omega) (by unfold maxLen; omega) (by omega) (by simp; omega) (wc.heap.size + 1) (by simp) ?_; intro gg cap w4 hown hgrow hat hlt4; have hx9 := (show Bx (wc.alloc (.cells #[.int .i64 (f2 j + k)] 3)).drew _ _ from hx8.alloc _).grown hgrow (by simp [Value.ownBlock]; omega); have h90 := hx9.cell (i := 1) (by simp); have h91 := hx9.frz 1; simp only [List.getElem_cons_zero, List.getElem_cons_succ] at h90))
        all_goals
          have hG : wc.grownBy w4 (some g2) := gb_trans (gb_drew (gb_alloc (gb_refl wc (some g2)) _)) hgrow
          have hgw := owns_cap O2.out
          have hgg : gg = g2 ∨ gg = wc.heap.size + 1 := by rcases hat with h | h; (simp [Value.ownBlock] at h; exact .inl h.symm); exact .inr h
          have hl1 := (O1.out.lt h1 rfl).2
          have hl2 := (O2.out.lt g2 rfl).2
          have HH : LateR w 3 (w1.heap.size + 1 + 1) m (some ⟨d1, z1, none⟩) (some ⟨d2, z2, none⟩) c1 c2 f1 f2 k (.int .i64 ((j : Int) + 1)) (w4.setCell ⟨w1.heap.size + 1 + 1, 1, none⟩ (.slice (some ⟨gg, 0, none⟩) (j + 1) cap)) := by
            refine ⟨j + 1, h1, l1, gg, cap, by omega, by go_num, (hx.grown hG (by simp; omega)).other (by simp; omega) _, (hxr.grown hG (by simp; omega)).other (by simp; omega) _, hx9.set 1 _, ?_, ?_, ⟨by omega, hg1, by omega⟩, ?_, ?_, ?_⟩
            · exact owns_store (owns_grown O1.out hG (by simp [Value.ownBlock]; omega)) (by simp [Value.ownBlock]; omega) _
            · rw [cellsN_succ]; exact owns_store hown (by simp [Value.ownBlock]; omega) _
            · exact (q1.grown (by omega) (by omega) hG).store (by simp; omega) _
            · exact (q2.grown (by omega) (by omega) hG).store (by simp; omega) _
            · exact (gb_bl hb (by omega) (by omega) hG).setCell (by simp; omega) _
          clear hgrow hat hown hx9 h90 h91 hG
          clear hw1
          go_wp2
          go_roundw
          case rel => exact HH
          case measure => simp [intOf]; omega
    · obtain rfl : j = m := by omega
      have w1' := Ow.of_owns o1 (fun i hi => cellsN_at hi)
      have w2' := Ow.of_owns o2 (fun i hi => cellsN_at hi)
      have hgl1 := (o1.lt g1 rfl).2
      have hgl2 := (o2.lt g2 rfl).2
      have hgb1 := (owns_cap o1).2.2
      have hgb2 := (owns_cap o2).2.2
      have hOK := Lib.hid (late_val (g1 := fun i => f1 i + k) (g2 := fun i => f2 i + k) (fun i _ => rfl) (fun i _ => rfl) OK.out)
      have p1 := Lib.hid (w1'.rn hgl1)
      have p2 := Lib.hid (w2'.rn hgl2)
      have W1 := Lib.hid w1'
      have W2 := Lib.hid w2'
      have hwz8 := hx8.lt
      have hwzr := hxr.lt
      clear w1' w2' o1 o2 q1 q2 hx
      cases ok
      all_goals
        go_wp2_with fail
        refine (sValid_is _ (some ⟨g1, 0, none⟩) (some ⟨g2, 0, none⟩) j k1 j k2 _ _ j _ hOK.out p1.out p2.out).mono ?_
        rintro e w5 ⟨rfl, hn⟩
        have hx8 := hx8.call hn
        have hxr := hxr.call hn
        have z1 := W1.out.call hn
        have z2 := W2.out.call hn
        have hb5 := bl hb (by omega) hn
        have hs5 := hn.size
        have x0 := hx8.cell (i := 0) (by simp)
        have x1 := hx8.cell (i := 1) (by simp)
        have y0 := hxr.cell (i := 0) (by simp)
        have y1 := hxr.cell (i := 1) (by simp)
        have y2 := hxr.frz 0
        have y3 := hxr.frz 1
        simp only [List.getElem_cons_zero, List.getElem_cons_succ] at x0 x1 y0 y1
        have Z1 := Lib.hid z1
        have Z2 := Lib.hid z2
        clear hn z1 z2 hx8 hxr
        go_wp2
        refine bodyPost_ret (by simp [results, Try.results30, go_sem, *]; rfl) rfl ?_
      · exact ⟨rfl, (by go_grown <;> (refine below_dn ?_ _ <;> go_grown <;> (refine below_dn ?_ _ <;> go_grown)))⟩
      · refine ⟨_, _, _, _, rfl, ?_, (by go_grown <;> (refine below_dn ?_ _ <;> go_grown <;> (refine below_dn ?_ _ <;> go_grown)))⟩
        exact OwP.mk (g1 := g1) (g2 := g2) ⟨by omega, by simp; omega⟩ ⟨by omega, by simp; omega⟩ hne
          ((Z1.out.store (a := ⟨w.heap.size + 1, 0, none⟩) (by simp; omega) _).store (a := ⟨w.heap.size + 1, 1, none⟩) (by simp; omega) _)
          ((Z2.out.store (a := ⟨w.heap.size + 1, 0, none⟩) (by simp; omega) _).store (a := ⟨w.heap.size + 1, 1, none⟩) (by simp; omega) _)
end Go.Proofs.Ytjppkcfbhhjniaa
