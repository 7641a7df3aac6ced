/-
  Contracts of RegisterJoin, the reference's and the program's.
-/
import Derived.Test.YtanfhgliilkhjaaRegF
namespace Go.Proofs.Ytanfhgliilkhjaa
open Go.RowKit Go.Deep
set_option linter.unusedVariables false

/-- One list behind the other. -/
def joinN (N : Nat → ND) (m : Nat) (M : Nat → ND) : Nat → ND := fun i => if i < m then N i else M (i - m)
theorem ncells_congr {N M : Nat → ND} {k : Nat} (h : ∀ i, i < k → N i = M i) : ncells N k = ncells M k := by
  induction k with
  | zero => rfl
  | succ k ih => rw [ncells, ncells, ih (fun i hi => h i (by omega)), h k (by omega)]
theorem ncells_join (N : Nat → ND) (m : Nat) (M : Nat → ND) (k : Nat) : ncells (joinN N m M) (m + k) = ncells N m ++ ncells M k := by
  induction k with
  | zero =>
    rw [Nat.add_zero, ncells_congr (N := joinN N m M) (M := N) (fun i hi => if_pos hi)]
    simp [ncells]
  | succ k ih =>
    have e : joinN N m M (m + k) = M k := by unfold joinN; rw [if_neg (by omega), show m + k - m = k by omega]
    rw [← Nat.add_assoc, ncells, ih, e, ncells, List.append_assoc]
/-- Does RegisterJoin answer? -/
def joinV (N : Nat → ND) (m : Nat) (M : Nat → ND) (m2 : Nat) : Bool := regV N m && (regV M m2 && regV (joinN N m M) (m + m2))
set_option maxRecDepth 100000 in
set_option maxHeartbeats 4000000 in
theorem sRegJoin (g m c g2 m2 c2 : Nat) (N M : Nat → ND) (w : World) (h : NsRn w w.heap.size (some ⟨g, 0, none⟩) m N) (h2 : NsRn w w.heap.size (some ⟨g2, 0, none⟩) m2 M) (hm : m ≤ 1048576) (hm2 : m2 ≤ 1048576) (v : Bool) (hv : joinV N m M m2 = v) (q : Nat) (hq1 : v = true → q = m + m2) (hq0 : v = false → q = 0) :
    Calls Try.prog 31 #[.slice (some ⟨g, 0, none⟩) m c, .slice (some ⟨g2, 0, none⟩) m2 c2] w (NotesOut w v q (joinN N m M)) := by
  have Q1 := Lib.hid hq1
  have Q0 := Lib.hid hq0
  clear hq1 hq0
  obtain ⟨i0, ji0, jz0, jz1, jz2⟩ := info_parts noteInfo
  have H := Lib.hid h
  have H2 := Lib.hid h2
  have V := Lib.hid hv
  clear h h2 hv
  go_enter Try.func31, Try.ntmps31
  go_wp2_with (at_builtin; refine wp_app rfl _ _ _ rfl w.heap.size 71 i0 (.agg #[.int .i64 0, .string ⟨#[]⟩]) 2 24 Try.underlying36 ji0 jz0 jz1 jz2 rfl (by omega) w.heap.size 0 0 [] rfl (World.ownsRow_made (base := w.heap.size) (size := 2) (e := 71) w #[] 0 (Nat.le_refl _) (by unfold maxLen; omega) (by simp)) ⟨g, 0, none⟩ m c (ncells N m) rfl (ncells_len N m) ?c2 (ncells_one N m) ?c3 ?c4 ?c5 (w.heap.size + 1) ?c6 ?_)
  case c2 => first | simpa [add_at] using H.out.news | simpa [add_at] using (H.out.alloc (Nat.le_refl _) (.cells #[] 71)).news
  case c3 => unfold maxLen; omega
  case c4 => omega
  try case c5 => simp
  try case c6 => simp
  intro g3 k3 w3 hown3 hg3 hat3 hlt3
  (try simp only [Nat.zero_add, List.nil_append] at hown3)
  have hb3 : Below w.heap.size w w3 := (show Below w.heap.size w (w.alloc (.cells #[] 71)) by go_grown).grown hg3 (by simp) (fun k e => by injection e with e; omega)
  have hl3 := hown3.lt g3 rfl
  have hc3 := owns_cap hown3
  have HO := Lib.hid hown3
  have H23 := Lib.hid (H2.out.topb hb3)
  have H3 := Lib.hid (H.out.topb hb3)
  have HB3 := Lib.hid hb3
  have hs3 := hb3.size
  clear hown3 hg3 hb3 hat3
  go_wp2_with (at_builtin; refine wp_app rfl _ _ _ rfl w.heap.size 71 i0 (.agg #[.int .i64 0, .string ⟨#[]⟩]) 2 24 Try.underlying36 ji0 jz0 jz1 jz2 rfl (by omega) g3 k3 m (ncells N m) rfl HO.out ⟨g2, 0, none⟩ m2 c2 (ncells M m2) rfl (ncells_len M m2) ?e2 (ncells_one M m2) ?e3 ?e4 ?e5 w3.heap.size ?e6 ?_)
  case e2 => simpa [add_at] using H23.out.news
  case e3 => unfold maxLen; omega
  case e4 => omega
  try case e5 => omega
  try case e6 => rfl
  intro g4 k4 w4 hown4 hg4 hat4 hlt4
  have hb4 : Below w.heap.size w w4 := HB3.out.grown hg4 hs3 (fun k e => by injection e with e; omega)
  have hl4 := hown4.lt g4 rfl
  rw [← ncells_join] at hown4
  have HO4 := Lib.hid hown4
  have HN4 := Lib.hid (H.out.topb hb4)
  have HM4 := Lib.hid (H2.out.topb hb4)
  have HB4 := Lib.hid hb4
  have HJ4 := Lib.hid ((NsOw.of_owns hown4).rn hl4.2)
  clear hown4 hg4 hb4 HO H23 H3 HB3 hat4
  go_wp2_with fail
  refine (sRegV _ m c N _ HN4.out (by omega)).mono ?_
  rintro e w5 ⟨rfl, rfl⟩
  cases e1 : regV N m
  · have ev : v = false := by rw [← V.out]; unfold joinV; rw [e1]; rfl
    subst ev
    obtain rfl := Q0.out rfl
    go_wp2
    go_ret2
    exact NotesOut.none_ _ (by have := HB4.out.size; have := HB4.out; go_grown)
  go_wp2_with fail
  refine (sRegV _ m2 c2 M _ HM4.out (by omega)).mono ?_
  rintro e w6 ⟨rfl, rfl⟩
  cases e2 : regV M m2
  · have ev : v = false := by rw [← V.out]; unfold joinV; rw [e1, e2]; rfl
    subst ev
    obtain rfl := Q0.out rfl
    go_wp2
    go_ret2
    exact NotesOut.none_ _ (by have := HB4.out.size; have := HB4.out; go_grown)
  go_wp2_with fail
  refine (sRegV _ (m + m2) k4 (joinN N m M) _ HJ4.out (by omega)).mono ?_
  rintro e w7 ⟨rfl, rfl⟩
  cases e3 : regV (joinN N m M) (m + m2)
  · have ev : v = false := by rw [← V.out]; unfold joinV; rw [e1, e2, e3]; rfl
    subst ev
    obtain rfl := Q0.out rfl
    go_wp2
    go_ret2
    exact NotesOut.none_ _ (by have := HB4.out.size; have := HB4.out; go_grown)
  · have ev : v = true := by rw [← V.out]; unfold joinV; rw [e1, e2, e3]; rfl
    subst ev
    obtain rfl := Q1.out rfl
    go_wp2
    go_ret2
    exact NotesRes.out (Below.refl _ _) hl4 (NsOw.of_owns HO4.out) HB4.out
set_option maxRecDepth 100000 in
set_option maxHeartbeats 4000000 in
theorem iRegJoin (A : Option Addr) (m c : Nat) (A2 : Option Addr) (m2 c2 : Nat) (N M : Nat → ND) (w : World) (h : NsRn w w.heap.size A m N) (h2 : NsRn w w.heap.size A2 m2 M) (hm : m ≤ 1048576) (hm2 : m2 ≤ 1048576) (v : Bool) (hv : joinV N m M m2 = v) (q : Nat) (hq1 : v = true → q = m + m2) (hq0 : v = false → q = 0) :
    Calls Try.prog 32 #[.slice A m c, .slice A2 m2 c2] w (NotesOut w v q (joinN N m M)) := by
  have Q1 := Lib.hid hq1
  have Q0 := Lib.hid hq0
  clear hq1 hq0
  have H := Lib.hid h
  have H2 := Lib.hid h2
  have V := Lib.hid hv
  clear h h2 hv
  obtain ⟨v1, e1⟩ : ∃ v1, regV N m = v1 := ⟨_, rfl⟩
  obtain ⟨v2, e2⟩ : ∃ v2, regV M m2 = v2 := ⟨_, rfl⟩
  have V1 := Lib.hid e1
  have V2 := Lib.hid e2
  clear e1 e2
  go_enter Try.func32, Try.ntmps32
  go_wp2_with fail
  refine (iRegOf v1 A m c N _ H.out (by omega) V1.out).mono ?_
  rintro e w1 ⟨bs1, rfl, hR1, hb1⟩
  have H21 := Lib.hid (H2.out.topb hb1)
  have HR1 := Lib.hid hR1
  have HB1 := Lib.hid hb1
  have hs1 := hb1.size
  clear hR1 hb1
  go_wp2_with fail
  refine (iRegOf v2 A2 m2 c2 M _ H21.out (by omega) V2.out).mono ?_
  rintro e w2 ⟨bs2, rfl, hR2, hb2⟩
  have HR2 := Lib.hid hR2
  have HB12 := Lib.hid hb2
  have HB2 := Lib.hid (bl HB1.out (Nat.le_refl _) hb2)
  have hs2 := hb2.size
  clear hR2 hb2 H21
  cases v1
  · have ev : v = false := by rw [← V.out]; unfold joinV; rw [V1.out]; rfl
    subst ev
    obtain rfl := Q0.out rfl
    go_wp2
    go_ret2
    exact NotesOut.none_ _ (by have := HB2.out; go_grown)
  cases v2
  · have ev : v = false := by rw [← V.out]; unfold joinV; rw [V1.out, V2.out]; rfl
    subst ev
    obtain rfl := Q0.out rfl
    go_wp2
    go_ret2
    exact NotesOut.none_ _ (by have := HB2.out; go_grown)
  have hm30 := (regV_iff.1 V1.out).1
  have hm230 := (regV_iff.1 V2.out).1
  have R1 := Lib.hid ((HR1.out hm30).call HB12.out)
  have L1 := Lib.hid (HR1.out hm30).lt
  have R2 := Lib.hid (HR2.out hm230)
  obtain ⟨x0, x1, x2⟩ := R2.out.top
  clear x1 x2 HR1 HR2
  go_wp2
  go_loopg [10] m2 (fun gk p wr => ∃ (i : Nat) (bs : Nat → Nat), gk + i = m2 ∧ p = .pointer (nxt m2 bs2 i) ∧ Rg wr w.heap.size w.heap.size (m + i) bs (joinN N m M) ∧ Rg wr w1.heap.size w1.heap.size m2 bs2 M ∧ Hid (∀ j, j < m + i → bs j < w1.heap.size ∨ w2.heap.size ≤ bs j) ∧ Below w.heap.size w wr ∧ w2.heap.size ≤ wr.heap.size)
  case atStart => exact ⟨0, bs1, by omega, rfl, R1.out.congr (fun i hi => (if_pos hi).symm), R2.out, fun j hj => .inl (L1.out.2 j hj), HB2.out, Nat.le_refl _⟩
  case round =>
    clear x0 R1
    obtain ⟨i, bs, hi, rfl, hA, hB, hbs, hb, hsz⟩ := hrel
    by_cases hlt : i < m2
    · obtain ⟨y0, y1, y2⟩ := hB.at_ hlt
      have l1 := L1.out.1
      have l2 := R2.out.lt.1
      have lk := R2.out.lt.2 i hlt
      have en : nxt m2 bs2 i = some ⟨bs2 i, 0, none⟩ := nxt_lt hlt
      rw [en]
      have HA := Lib.hid hA
      have HBq := Lib.hid hB
      have HBw := Lib.hid hb
      clear en hA hB hb
      go_wp2_with fail
      refine (iPut w.heap.size w.heap.size (m + i) bs (joinN N m M) (M i).t (M i).s _ HA.out (by omega) (by omega)).mono ?_
      rintro e w3 ⟨rfl, b3, hb3, hR3, hw3⟩
      have hbl : Below w.heap.size w w3 := HBw.out.trans (hw3.below (by omega) (fun x hx => by
        rcases hx with rfl | ⟨h0, rfl⟩
        · exact Nat.le_refl _
        · exact (HA.out.2.2.1 (m + i - 1) (by omega)).1))
      have hlast : 0 < m + i → bs (m + i - 1) < w1.heap.size ∨ w2.heap.size ≤ bs (m + i - 1) := fun h => hbs.out _ (by omega)
      have hB3 := HBq.out.wr hw3 (fun x => by rcases x with x | ⟨x, y⟩; omega; (have := hlast x; omega)) (fun j hj x => by
        have q1 := (HBq.out.2.2.1 j hj).1
        have q2 := R2.out.lt.2 j hj
        rcases x with x | ⟨x, y⟩
        · omega
        · have := hlast x; omega)
      have R3 := Lib.hid (hR3.congr (M := joinN N m M) (fun j hj => by
        unfold updN
        by_cases c : j = m + i
        · subst c; rw [if_pos rfl]; unfold joinN; rw [if_neg (by omega), show m + i - m = i by omega]
        · rw [if_neg c]))
      have z2 := (hB3.at_ hlt).2.2
      have HB3 := Lib.hid hB3
      have HBl := Lib.hid hbl
      have hs3 := hw3.size
      have HS : Hid (∀ j, j < m + (i + 1) → updB bs (m + i) b3 j < w1.heap.size ∨ w2.heap.size ≤ updB bs (m + i) b3 j) := fun j hj => by
        unfold updB
        by_cases c : j = m + i
        · rw [if_pos c]; omega
        · rw [if_neg c]; exact hbs.out j (by omega)
      clear hR3 hw3 hbl hB3 HA HBq HBw y0 y1 y2 hlast hbs
      go_wp2
      go_roundg (gk - 1)
      case measure => omega
      case rel => exact ⟨i + 1, _, by omega, rfl, R3.out, HB3.out, HS, HBl.out, by omega⟩
    · obtain rfl : i = m2 := by omega
      have en : nxt i bs2 i = none := nxt_ge (Nat.le_refl _)
      rw [en]
      have HA := Lib.hid hA
      have HBw := Lib.hid hb
      obtain ⟨v3, e3⟩ : ∃ v3, regV (joinN N m M) (m + i) = v3 := ⟨_, rfl⟩
      have V3 := Lib.hid e3
      clear en hA hb hB hbs e3
      go_wp2_with fail
      refine (iRegValid v3 _ _ (m + i) bs (joinN N m M) _ HA.out (by omega) V3.out).mono ?_
      rintro e w4 ⟨rfl, rfl⟩
      cases v3
      · have ev : v = false := by rw [← V.out]; unfold joinV; rw [V1.out, V2.out, V3.out]; rfl
        subst ev
        obtain rfl := Q0.out rfl
        go_wp2
        go_ret2
        exact NotesOut.none_ _ (by have := HBw.out.size; have := HBw.out; go_grown)
      · have ev : v = true := by rw [← V.out]; unfold joinV; rw [V1.out, V2.out, V3.out]; rfl
        subst ev
        obtain rfl := Q1.out rfl
        go_wp2_with fail
        refine (iList _ _ (m + i) bs (joinN N m M) _ HA.out (by omega)).mono ?_
        rintro e w5 ⟨g1, c1, rfl, hg1, ho, hb5⟩
        have HO := Lib.hid ho
        clear ho
        go_wp2
        go_ret2
        exact NotesRes.out HBw.out hg1 HO.out hb5
/-- What both RegisterJoin give. -/
theorem d_RegJoin (m : Nat) (N : Nat → ND) (m2 : Nat) (M : Nat → ND) (hm : m ≤ 1048576) (hm2 : m2 ≤ 1048576) : ∃ (ok : Bool) (q : Nat) (Q : Nat → ND), q ≤ 60 ∧
    (∀ (W : World) (g d g2 d2 : Nat), m ≤ d → m2 ≤ d2 → NsRn W W.heap.size (some ⟨g, 0, none⟩) m N → NsRn W W.heap.size (some ⟨g2, 0, none⟩) m2 M → Calls Try.prog 31 #[.slice (some ⟨g, 0, none⟩) m d, .slice (some ⟨g2, 0, none⟩) m2 d2] W (NotesOut W ok q Q)) ∧
    (∀ (W : World) (g d g2 d2 : Nat), m ≤ d → m2 ≤ d2 → NsRn W W.heap.size (some ⟨g, 0, none⟩) m N → NsRn W W.heap.size (some ⟨g2, 0, none⟩) m2 M → Calls Try.prog 32 #[.slice (some ⟨g, 0, none⟩) m d, .slice (some ⟨g2, 0, none⟩) m2 d2] W (NotesOut W ok q Q)) := by
  refine ⟨joinV N m M m2, if joinV N m M m2 = true then m + m2 else 0, joinN N m M, ?_, fun W g d g2 d2 hd hd2 h h2 => sRegJoin g m d g2 m2 d2 N M W h h2 hm hm2 _ rfl _ (fun e => if_pos e) (fun e => if_neg (by rw [e]; simp)), fun W g d g2 d2 hd hd2 h h2 => iRegJoin _ m d _ m2 d2 N M W h h2 hm hm2 _ rfl _ (fun e => if_pos e) (fun e => if_neg (by rw [e]; simp))⟩
  by_cases c : joinV N m M m2 = true
  · rw [if_pos c]
    unfold joinV at c
    simp only [Bool.and_eq_true] at c
    have h1 := (regV_iff.1 c.1).1
    have h2 := (regV_iff.1 c.2.1).1
    omega
  · rw [if_neg c]; omega
end Go.Proofs.Ytanfhgliilkhjaa
