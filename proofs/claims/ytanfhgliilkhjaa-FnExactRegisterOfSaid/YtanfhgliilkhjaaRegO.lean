/-
  Contracts of RegisterOf, the reference's and the program's.
-/
import Derived.Test.YtanfhgliilkhjaaRegEM
import Derived.Test.YtanfhgliilkhjaaRegVd
import Derived.Deep.RegionLaw
namespace Go.Proofs.Ytanfhgliilkhjaa
open Go.RowKit Go.Deep
set_option linter.unusedVariables false

/-- The notes of a section among the first j moves. -/
def ofL (N : Nat → ND) (f : Nat → Int) (k : Int) : Nat → List ND
  | 0 => []
  | j + 1 => if (N j).t = k then ofL N f k j ++ [⟨f j, (N j).s⟩] else ofL N f k j
theorem ofL_yes {N : Nat → ND} {f : Nat → Int} {k : Int} {j : Nat} (h : (N j).t = k) : ofL N f k (j + 1) = ofL N f k j ++ [⟨f j, (N j).s⟩] := if_pos h
theorem ofL_no {N : Nat → ND} {f : Nat → Int} {k : Int} {j : Nat} (h : ¬ (N j).t = k) : ofL N f k (j + 1) = ofL N f k j := if_neg h
theorem ofL_len (N : Nat → ND) (f : Nat → Int) (k : Int) (j : Nat) : (ofL N f k j).length ≤ j := by
  induction j with
  | zero => exact Nat.le_refl _
  | succ j ih =>
    by_cases h : (N j).t = k
    · rw [ofL_yes h, List.length_append]; simp; omega
    · rw [ofL_no h]; omega
def fnL (l : List ND) : Nat → ND := fun i => l.getD i ⟨0, ⟨#[]⟩⟩
theorem ncells_fn (l : List ND) (x : ND) {n : Nat} (hn : l.length = n) : ncells (fnL (l ++ [x])) (n + 1) = ncells (fnL l) n ++ [.int .i64 x.t, .string x.s] := by
  have e : ∀ k, k ≤ n → ncells (fnL (l ++ [x])) k = ncells (fnL l) k := by
    intro k
    induction k with
    | zero => intro _; rfl
    | succ k ih =>
      intro hk
      have e1 : fnL (l ++ [x]) k = fnL l k := by unfold fnL; simp [List.getD, List.getElem?_append_left (show k < l.length by omega)]
      rw [ncells, ncells, ih (by omega), e1]
  have e2 : fnL (l ++ [x]) n = x := by unfold fnL; simp [List.getD, ← hn]
  rw [ncells, e n (Nat.le_refl _), e2]
/-- Between two rounds. -/
def OfR (w : World) (T m : Nat) (N : Nat → ND) (f : Nat → Int) (k : Int) (out i : Value) (wr : World) : Prop :=
  ∃ (j g c n : Nat) (l : List ND), j ≤ m ∧ n ≤ j ∧ i = .int .i64 j ∧ Hid (ofL N f k j = l) ∧ Hid (l.length = n) ∧ out = .slice (some ⟨g, 0, none⟩) n c ∧ wr.ownsRow w.heap.size T 2 (.slice (some ⟨g, 0, none⟩) n c) n (ncells (fnL l) n) ∧ Below w.heap.size w wr
set_option maxRecDepth 100000 in
set_option maxHeartbeats 4000000 in
theorem sRegOf_go (g m c g2 c2 : Nat) (N : Nat → ND) (f : Nat → Int) (k : Int) (w : World) (h : NsRn w w.heap.size (some ⟨g, 0, none⟩) m N) (h2 : Rn w w.heap.size (some ⟨g2, 0, none⟩) m f) (hm : m ≤ 1048576) (v : Bool) (hv : regV (fnL (ofL N f k m)) (ofL N f k m).length = v) (q : Nat) (hq1 : v = true → q = (ofL N f k m).length) (hq0 : v = false → q = 0) :
    Calls Try.prog 46 #[.slice (some ⟨g, 0, none⟩) m c, .slice (some ⟨g2, 0, none⟩) m c2, .int .i64 k] w (NotesOut w v q (fnL (ofL N f k m))) := by
  obtain ⟨i0, ji0, jz0, jz1, jz2⟩ := info_parts noteInfo
  have J := Lib.hid (And.intro ji0 (And.intro jz0 (And.intro jz1 jz2)))
  have H := Lib.hid h
  have H2 := Lib.hid h2
  have V := Lib.hid hv
  have Q1 := Lib.hid hq1
  have Q0 := Lib.hid hq0
  have hmm : ((m : Int) == (m : Int)) = true := beq_self_eq_true _
  have O0 := Lib.hid (World.ownsRow_made (base := w.heap.size) (size := 2) (e := 71) w #[] 0 (Nat.le_refl _) (by unfold maxLen; omega) (by simp))
  clear h h2 hv hq1 hq0 ji0 jz0 jz1 jz2
  go_enter Try.func46, Try.ntmps46
  go_wp2
  go_loopw [8, 9] (fun out i wr => OfR w 71 m N f k out i wr) (fun _ i _ => m - (intOf i).toNat)
  case atStart => exact ⟨0, _, _, 0, [], Nat.zero_le _, Nat.zero_le _, rfl, rfl, rfl, rfl, O0.out, by go_grown⟩
  case round =>
    clear O0
    obtain ⟨j, g1, c1, n, l, hj, hnj, rfl, hl, HL, rfl, ho, hb⟩ := hrel
    have hszX := hb.size
    have hcp := owns_cap ho
    have lg := ho.lt g1 rfl
    have HO := Lib.hid ho
    have HB := Lib.hid hb
    by_cases hlt : j < m
    · obtain ⟨b, off, e, hbB, hcc⟩ := H.out (by omega)
      simp only [Option.some.injEq, Addr.mk.injEq, and_true] at e
      obtain ⟨rfl, rfl⟩ := e
      obtain ⟨b2, off2, e, hbB2, hcc2⟩ := H2.out (by omega)
      simp only [Option.some.injEq, Addr.mk.injEq, and_true] at e
      obtain ⟨rfl, rfl⟩ := e
      obtain ⟨q0, q1⟩ := hcc j hlt
      have q2 := hcc2 j hlt
      have x0 := (hb.cell (p := ⟨g, 0 + j * 2, none⟩) hbB).trans q0
      have x1 := (hb.cell (p := ⟨g, 0 + j * 2 + 1, none⟩) hbB).trans q1
      have x2 := (hb.cell (p := ⟨g2, 0 + j, none⟩) hbB2).trans q2
      simp only [Nat.zero_add] at x0 x1 x2
      have hj0 : (0 : Int) ≤ (j : Int) := by omega
      have hj1 : (j : Int) < (m : Int) := by omega
      clear hcc hcc2 q0 q1 q2 ho hb
      by_cases he : (N j).t = k
      · have hd : ((N j).t == k) = true := beq_iff_eq.2 he
        have hst : Hid (ofL N f k (j + 1) = l ++ [⟨f j, (N j).s⟩]) := by show _ = _; rw [ofL_yes he, hl.out]
        clear he
        go_wp2_with fail
        obtain ⟨ji0, jz0, jz1, jz2⟩ := J.out
        go_region_law (first | (refine step_append_lies _ (by rfl) _ _ _ (by rfl) w.heap.size 71 i0 (.agg #[.int .i64 0, .string ⟨#[]⟩]) 2 24 Try.underlying36 ji0 jz0 jz1 jz2 rfl (by omega) (.slice (some ⟨g1, 0, none⟩) n c1) n (ncells (fnL l) n) (by rfl) ((HO.out.alloc _).drew) ⟨wr.heap.size, 0, none⟩ 1 1 [.int .i64 (f j), .string (N j).s] (by rfl) (by rfl) (World.news_of_block (cs := #[.int .i64 (f j), .string (N j).s]) (t := 71) (fr := (0, 0)) (heap_alloc_new wr _)) (one_note _ _) (by omega) (by unfold maxLen; omega) (by omega) (by simp; omega) (wr.heap.size + 1) (by simp) ?_; intro gg cap w4 hown hgrow hat hlt4))
        all_goals
          have hgrow : (wr.alloc (.cells #[.int .i64 (f j), .string (N j).s] 71)).drew.grownBy w4 (some g1) := hgrow
          have hb4 : Below w.heap.size w w4 := (show Below w.heap.size w (wr.alloc (.cells #[.int .i64 (f j), .string (N j).s] 71)).drew from (HB.out.alloc hszX _).drew).grown hgrow (by simp; omega) (fun k e => by injection e with e; omega)
          have HO4 := Lib.hid (show w4.ownsRow w.heap.size 71 2 (.slice (some ⟨gg, 0, none⟩) (n + 1) cap) (n + 1) (ncells (fnL (l ++ [⟨f j, (N j).s⟩])) (n + 1)) by rw [ncells_fn l _ HL.out]; exact hown)
          have HB4 := Lib.hid hb4
          have HL4 : Hid ((l ++ [(⟨f j, (N j).s⟩ : ND)]).length = n + 1) := by show _ = _; rw [List.length_append, HL.out]; rfl
          clear hown hgrow hat hb4 HO HB
          go_wp2_with fail
          go_roundw
          case rel => exact ⟨j + 1, gg, cap, n + 1, _, by omega, by omega, by go_num, hst, HL4, rfl, HO4.out, HB4.out⟩
          case measure => simp [intOf]; omega
      · have hd : ((N j).t == k) = false := beq_eq_false_iff_ne.2 he
        have hst : Hid (ofL N f k (j + 1) = l) := by show _ = _; rw [ofL_no he, hl.out]
        clear he
        go_wp2
        go_roundw
        case rel => exact ⟨j + 1, g1, c1, n, l, by omega, by omega, by go_num, hst, HL, rfl, HO.out, HB.out⟩
        case measure => simp [intOf]; omega
    · obtain rfl : j = m := by omega
      have V2 : Hid (regV (fnL l) n = v) := by have := V.out; rw [hl.out, HL.out] at this; exact this
      have HJ := Lib.hid ((NsOw.of_owns ho).rn lg.2)
      have hd : ((j : Int) != (j : Int)) = false := eq_lit rfl
      rw [hl.out]
      clear ho hb
      go_wp2_with fail
      refine (sRegV _ n c1 (fnL l) _ HJ.out (by omega)).mono ?_
      rintro e w1 ⟨rfl, rfl⟩
      rw [V2.out]
      cases v
      · obtain rfl := Q0.out rfl
        go_wp2
        go_ret2
        exact NotesOut.none_ _ (by have := HB.out.size; have := HB.out; go_grown)
      · obtain rfl : q = n := by rw [Q1.out rfl, hl.out, HL.out]
        go_wp2
        go_ret2
        exact NotesRes.out (Below.refl _ _) lg (by rw [hl.out]; exact NsOw.of_owns HO.out) HB.out
set_option maxRecDepth 100000 in
set_option maxHeartbeats 4000000 in
theorem sRegOf_no (A : Option Addr) (m c : Nat) (A2 : Option Addr) (m2 c2 : Nat) (N : Nat → ND) (k : Int) (w : World) (hm : m ≤ 1048576) (hm2 : m2 ≤ 1048576) (hne : m2 ≠ m) :
    Calls Try.prog 46 #[.slice A m c, .slice A2 m2 c2, .int .i64 k] w (NotesOut w false 0 N) := by
  have hd : ((m2 : Int) != (m : Int)) = true := ne_lit (by omega)
  have hd2 : ((m2 : Int) == (m : Int)) = false := beq_eq_false_iff_ne.2 (by omega)
  clear hne
  go_enter Try.func46, Try.ntmps46
  go_wp2
  go_loopw [8, 9] (fun out i wr => i = .int .i64 0 ∧ out = .slice (some ⟨w.heap.size, 0, none⟩) 0 0 ∧ wr = w.alloc (.cells #[] 71)) (fun _ _ _ => 0)
  case atStart => exact ⟨rfl, rfl, rfl⟩
  case round =>
    obtain ⟨rfl, rfl, rfl⟩ := hrel
    go_wp2
    all_goals
      go_ret2
      exact NotesOut.none_ _ (by go_grown)
set_option maxRecDepth 100000 in
set_option maxHeartbeats 4000000 in
theorem iRegOf_go (g m c g2 c2 : Nat) (N : Nat → ND) (f : Nat → Int) (k : Int) (w : World) (h : NsRn w w.heap.size (some ⟨g, 0, none⟩) m N) (h2 : Rn w w.heap.size (some ⟨g2, 0, none⟩) m f) (hm : m ≤ 1048576) (v : Bool) (hv : regV (fnL (ofL N f k m)) (ofL N f k m).length = v) (q : Nat) (hq1 : v = true → q = (ofL N f k m).length) (hq0 : v = false → q = 0) :
    Calls Try.prog 48 #[.slice (some ⟨g, 0, none⟩) m c, .slice (some ⟨g2, 0, none⟩) m c2, .int .i64 k] w (NotesOut w v q (fnL (ofL N f k m))) := by
  obtain ⟨i0, ji0, jz0, jz1, jz2⟩ := info_parts noteInfo
  have J := Lib.hid (And.intro ji0 (And.intro jz0 (And.intro jz1 jz2)))
  have H := Lib.hid h
  have H2 := Lib.hid h2
  have V := Lib.hid hv
  have Q1 := Lib.hid hq1
  have Q0 := Lib.hid hq0
  have hmm : ((m : Int) != (m : Int)) = false := eq_lit rfl
  have O0 := Lib.hid (World.ownsRow_made (base := w.heap.size) (size := 2) (e := 71) w #[] 0 (Nat.le_refl _) (by unfold maxLen; omega) (by simp))
  clear h h2 hv hq1 hq0 ji0 jz0 jz1 jz2
  go_enter Try.func48, Try.ntmps48
  go_wp2
  go_loopw [8, 20] (fun out i wr => OfR w 71 m N f k out i wr) (fun _ i _ => m - (intOf i).toNat)
  case atStart => exact ⟨0, _, _, 0, [], Nat.zero_le _, Nat.zero_le _, rfl, rfl, rfl, rfl, O0.out, by go_grown⟩
  case round =>
    clear O0
    obtain ⟨j, g1, c1, n, l, hj, hnj, rfl, hl, HL, rfl, ho, hb⟩ := hrel
    have hsz := hb.size
    have hcp := owns_cap ho
    have lg := ho.lt g1 rfl
    by_cases hlt : j < m
    · obtain ⟨b, off, e, hbB, hcc⟩ := H.out (by omega)
      simp only [Option.some.injEq, Addr.mk.injEq, and_true] at e
      obtain ⟨rfl, rfl⟩ := e
      obtain ⟨b2, off2, e, hbB2, hcc2⟩ := H2.out (by omega)
      simp only [Option.some.injEq, Addr.mk.injEq, and_true] at e
      obtain ⟨rfl, rfl⟩ := e
      obtain ⟨q0, q1⟩ := hcc j hlt
      have q2 := hcc2 j hlt
      have x0 := (hb.cell (p := ⟨g, 0 + j * 2, none⟩) hbB).trans q0
      have x1 := (hb.cell (p := ⟨g, 0 + j * 2 + 1, none⟩) hbB).trans q1
      simp only [Nat.zero_add] at x0 x1
      have bx := Bx.new wr [.int .i64 (N j).t, .string (N j).s] 108
      have hXb : Below w.heap.size w (wr.alloc (.cells #[.int .i64 (N j).t, .string (N j).s] 108)) := hb.alloc hsz _
      have hXo := ho.alloc (.cells #[.int .i64 (N j).t, .string (N j).s] 108)
      have x2 := (hXb.cell (p := ⟨g2, 0 + j, none⟩) hbB2).trans q2
      simp only [Nat.zero_add] at x2
      have hj0 : (0 : Int) ≤ (j : Int) := by omega
      have hj1 : (j : Int) < (m : Int) := by omega
      clear hcc hcc2 q0 q1 q2 ho hb
      by_cases he : (N j).t = k
      · have hd : ((N j).t == k) = true := beq_iff_eq.2 he
        have hst : Hid (ofL N f k (j + 1) = l ++ [⟨f j, (N j).s⟩]) := by show _ = _; rw [ofL_yes he, hl.out]
        clear he
        go_wp2_with fail
        replace bx : Bx (wr.alloc (.cells #[.int .i64 (N j).t, .string (N j).s] 108)) wr.heap.size [.int .i64 (N j).t, .string (N j).s] := bx
        generalize wr.alloc (.cells #[.int .i64 (N j).t, .string (N j).s] 108) = X' at *
        have lX := bx.lt
        have z0 := bx.cell (i := 0) (by simp)
        have z1 := bx.cell (i := 1) (by simp)
        simp only [List.getElem_cons_zero, List.getElem_cons_succ] at z0 z1
        have HO := Lib.hid hXo
        have HB := Lib.hid hXb
        have hszX := hXb.size
        have lg2 := hXo.lt g1 rfl
        clear hXo hXb bx x0 x1
        obtain ⟨ji0, jz0, jz1, jz2⟩ := J.out
        go_region_law (first | (refine step_append_lies _ (by rfl) _ _ _ (by rfl) w.heap.size 71 i0 (.agg #[.int .i64 0, .string ⟨#[]⟩]) 2 24 Try.underlying36 ji0 jz0 jz1 jz2 rfl (by omega) (.slice (some ⟨g1, 0, none⟩) n c1) n (ncells (fnL l) n) (by rfl) ((HO.out.alloc _).drew) ⟨X'.heap.size, 0, none⟩ 1 1 [.int .i64 (f j), .string (N j).s] (by rfl) (by rfl) (World.news_of_block (cs := #[.int .i64 (f j), .string (N j).s]) (t := 71) (fr := (0, 0)) (heap_alloc_new X' _)) (one_note _ _) (by omega) (by unfold maxLen; omega) (by omega) (by simp; omega) (X'.heap.size + 1) (by simp) ?_; intro gg cap w4 hown hgrow hat hlt4))
        all_goals
          have hgrow : (X'.alloc (.cells #[.int .i64 (f j), .string (N j).s] 71)).drew.grownBy w4 (some g1) := hgrow
          have hb4 : Below w.heap.size w w4 := (show Below w.heap.size w (X'.alloc (.cells #[.int .i64 (f j), .string (N j).s] 71)).drew from (HB.out.alloc hszX _).drew).grown hgrow (by simp; omega) (fun k e => by injection e with e; omega)
          have HO4 := Lib.hid (show w4.ownsRow w.heap.size 71 2 (.slice (some ⟨gg, 0, none⟩) (n + 1) cap) (n + 1) (ncells (fnL (l ++ [⟨f j, (N j).s⟩])) (n + 1)) by rw [ncells_fn l _ HL.out]; exact hown)
          have HB4 := Lib.hid hb4
          have HL4 : Hid ((l ++ [(⟨f j, (N j).s⟩ : ND)]).length = n + 1) := by show _ = _; rw [List.length_append, HL.out]; rfl
          clear hown hgrow hat hb4 HO HB
          go_wp2_with fail
          go_roundw
          case rel => exact ⟨j + 1, gg, cap, n + 1, _, by omega, by omega, by go_num, hst, HL4, rfl, HO4.out, HB4.out⟩
          case measure => simp [intOf]; omega
      · have hd : ((N j).t == k) = false := beq_eq_false_iff_ne.2 he
        have hst : Hid (ofL N f k (j + 1) = l) := by show _ = _; rw [ofL_no he, hl.out]
        have HO := Lib.hid hXo
        have HB := Lib.hid hXb
        clear he hXo hXb bx
        go_wp2
        go_roundw
        case rel => exact ⟨j + 1, g1, c1, n, l, by omega, by omega, by go_num, hst, HL, rfl, HO.out, HB.out⟩
        case measure => simp [intOf]; omega
    · obtain rfl : j = m := by omega
      have HO := Lib.hid ho
      have HB := Lib.hid hb
      have V2 : Hid (regV (fnL l) n = v) := by have := V.out; rw [hl.out, HL.out] at this; exact this
      have HJ := Lib.hid ((NsOw.of_owns ho).rn lg.2)
      rw [hl.out]
      clear ho hb
      go_wp2_with fail
      refine (iRegV v _ n c1 (fnL l) _ HJ.out (by omega) V2.out).mono ?_
      rintro e w1 ⟨rfl, hb1⟩
      have HO1 := Lib.hid (NsOw.of_owns HO.out |>.call hb1)
      have HB1 := Lib.hid (bl HB.out (by omega) hb1)
      have hs1 := hb1.size
      clear hb1
      cases v
      · obtain rfl := Q0.out rfl
        go_wp2
        go_ret2
        exact NotesOut.none_ _ (by have := HB1.out.size; have := HB1.out; go_grown)
      · obtain rfl : q = n := by rw [Q1.out rfl, hl.out, HL.out]
        go_wp2
        go_ret2
        exact NotesRes.out (Below.refl _ _) ⟨lg.1, by omega⟩ (by rw [hl.out]; exact HO1.out) HB1.out
set_option maxRecDepth 100000 in
theorem iRegOf_no (A : Option Addr) (m c : Nat) (A2 : Option Addr) (m2 c2 : Nat) (N : Nat → ND) (k : Int) (w : World) (hm : m ≤ 1048576) (hm2 : m2 ≤ 1048576) (hne : m2 ≠ m) :
    Calls Try.prog 48 #[.slice A m c, .slice A2 m2 c2, .int .i64 k] w (NotesOut w false 0 N) := by
  have hd : ((m2 : Int) != (m : Int)) = true := ne_lit (by omega)
  clear hne
  go_enter Try.func48, Try.ntmps48
  go_wp2
  go_ret2
  exact NotesOut.none_ _ (by go_grown)
/-- What both RegisterOf give. -/
theorem d_RegOf (m : Nat) (N : Nat → ND) (m2 : Nat) (f : Nat → Int) (k : Int) (hm : m ≤ 1048576) (hm2 : m2 ≤ 1048576) : ∃ (ok : Bool) (q : Nat) (Q : Nat → ND), q ≤ 60 ∧
    (∀ (W : World) (g d g2 d2 : Nat), NsRn W W.heap.size (some ⟨g, 0, none⟩) m N → Rn W W.heap.size (some ⟨g2, 0, none⟩) m2 f → Calls Try.prog 46 #[.slice (some ⟨g, 0, none⟩) m d, .slice (some ⟨g2, 0, none⟩) m2 d2, .int .i64 k] W (NotesOut W ok q Q)) ∧
    (∀ (W : World) (g d g2 d2 : Nat), NsRn W W.heap.size (some ⟨g, 0, none⟩) m N → Rn W W.heap.size (some ⟨g2, 0, none⟩) m2 f → Calls Try.prog 48 #[.slice (some ⟨g, 0, none⟩) m d, .slice (some ⟨g2, 0, none⟩) m2 d2, .int .i64 k] W (NotesOut W ok q Q)) := by
  by_cases c : m2 = m
  · subst c
    refine ⟨regV (fnL (ofL N f k m2)) (ofL N f k m2).length, if regV (fnL (ofL N f k m2)) (ofL N f k m2).length = true then (ofL N f k m2).length else 0, fnL (ofL N f k m2), ?_, fun W g d g2 d2 h h2 => sRegOf_go g m2 d g2 d2 N f k W h h2 hm _ rfl _ (fun e => if_pos e) (fun e => if_neg (by rw [e]; simp)), fun W g d g2 d2 h h2 => iRegOf_go g m2 d g2 d2 N f k W h h2 hm _ rfl _ (fun e => if_pos e) (fun e => if_neg (by rw [e]; simp))⟩
    by_cases c : regV (fnL (ofL N f k m2)) (ofL N f k m2).length = true
    · rw [if_pos c]; have := (regV_iff.1 c).1; omega
    · rw [if_neg c]; omega
  · exact ⟨false, 0, N, by omega, fun W g d g2 d2 _ _ => sRegOf_no _ m d _ m2 d2 N k W hm hm2 c, fun W g d g2 d2 _ _ => iRegOf_no _ m d _ m2 d2 N k W hm hm2 c⟩
end Go.Proofs.Ytanfhgliilkhjaa
