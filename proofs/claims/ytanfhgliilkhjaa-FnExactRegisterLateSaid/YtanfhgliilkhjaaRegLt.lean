/-
  Contracts of RegisterLate, the reference's and the program's.
-/
import Derived.Test.YtanfhgliilkhjaaRegF
import Derived.Deep.RegionLaw
import Derived.Deep.AppendLies
namespace Go.Proofs.Ytanfhgliilkhjaa
open Go.RowKit Go.Deep
set_option linter.unusedVariables false

/-- All minutes later. -/
def lateN (k : Int) (N : Nat → ND) : Nat → ND := fun i => ⟨(N i).t + k, (N i).s⟩
def okL (k : Int) (N : Nat → ND) (m : Nat) : Prop := m = 0 ∨ (regV N m = true ∧ -2000 ≤ k ∧ k ≤ 2000)
theorem regV_zero (N : Nat → ND) : regV N 0 = true := regV_iff.2 ⟨by omega, regP_zero _⟩
/-- Between two rounds. -/
def LateR (w : World) (T m : Nat) (M : Nat → ND) (out i : Value) (wr : World) : Prop :=
  ∃ j g c : Nat, j ≤ m ∧ i = .int .i64 j ∧ out = .slice (some ⟨g, 0, none⟩) j c ∧ wr.ownsRow w.heap.size T 2 (.slice (some ⟨g, 0, none⟩) j c) j (ncells M j) ∧ Below w.heap.size w wr
set_option maxRecDepth 100000 in
set_option maxHeartbeats 4000000 in
theorem sRegLate_go (v : Bool) (g m c : Nat) (N : Nat → ND) (k : Int) (w : World) (h : NsRn w w.heap.size (some ⟨g, 0, none⟩) m N) (hm : m ≤ 1048576) (hok : okL k N m) (hv : regV (lateN k N) m = v) (q : Nat) (hq1 : v = true → q = m) (hq0 : v = false → q = 0) :
    Calls Try.prog 41 #[.slice (some ⟨g, 0, none⟩) m c, .int .i64 k] w (NotesOut w v q (lateN k N)) := by
  have Q1 := Lib.hid hq1
  have Q0 := Lib.hid hq0
  clear hq1 hq0
  obtain ⟨i0, ji0, jz0, jz1, jz2⟩ := info_parts noteInfo
  have J := Lib.hid (And.intro ji0 (And.intro jz0 (And.intro jz1 jz2)))
  have H := Lib.hid h
  have OK := Lib.hid hok
  have V := Lib.hid hv
  have O0 := Lib.hid (World.ownsRow_made (base := w.heap.size) (size := 2) (e := 71) w #[] 0 (Nat.le_refl _) (by unfold maxLen; omega) (by simp))
  clear h hok hv ji0 jz0 jz1 jz2
  go_enter Try.func41, Try.ntmps41
  go_wp2
  go_loopw [6, 7] (fun out i wr => LateR w 71 m (lateN k N) out i wr) (fun _ i _ => m - (intOf i).toNat)
  case atStart => exact ⟨0, _, _, Nat.zero_le _, rfl, rfl, O0.out, by go_grown⟩
  case round =>
    clear O0
    obtain ⟨j, g1, c1, hj, rfl, rfl, ho, hb⟩ := hrel
    have hsz := hb.size
    by_cases hlt : j < m
    · obtain ⟨hrv, hk1, hk2⟩ : regV N m = true ∧ -2000 ≤ k ∧ k ≤ 2000 := by rcases OK.out with h | h; exact absurd h (by omega); exact h
      have hm30 := (regV_iff.1 hrv).1
      have htb := regP_bd (regV_iff.1 hrv).2 hlt
      obtain ⟨b, off, e, hbB, hcc⟩ := H.out (by omega)
      simp only [Option.some.injEq, Addr.mk.injEq, and_true] at e
      obtain ⟨rfl, rfl⟩ := e
      obtain ⟨q0, q1⟩ := hcc j hlt
      have x0 := (hb.cell (p := ⟨g, 0 + j * 2, none⟩) hbB).trans q0
      have x1 := (hb.cell (p := ⟨g, 0 + j * 2 + 1, none⟩) hbB).trans q1
      simp only [Nat.zero_add] at x0 x1
      have RV := Lib.hid hrv
      have HR := Lib.hid (H.out.topb hb)
      have V1 : Hid ((decide (-2000 ≤ k) && decide (k ≤ 2000)) = true) := by rw [Hid, decide_eq_true hk1, decide_eq_true hk2]; rfl
      have hcp := owns_cap ho
      have lg := ho.lt g1 rfl
      have HO := Lib.hid ho
      have HB := Lib.hid hb
      have hj0 : (0 : Int) ≤ (j : Int) := by omega
      have hj1 : (j : Int) < (m : Int) := by omega
      have hw1 : IntKind.i64.wrap ((N j).t + k) = (N j).t + k := IntWalk.i64_in _ (by omega)
      clear hcc q0 q1 hrv ho hb
      go_wp2_with fail
      refine (sRegV _ m c N _ HR.out (by omega)).mono ?_
      rintro e w1 ⟨rfl, rfl⟩
      rw [RV.out]
      go_wp2_with fail
      refine (sIn_v true _ _ _ _ V1.out).mono ?_
      rintro e w1 ⟨rfl, rfl⟩
      go_wp2_with fail
      obtain ⟨ji0, jz0, jz1, jz2⟩ := J.out
      go_region_law (first | (refine step_append_lies _ (by rfl) _ _ _ (by rfl) w.heap.size 71 i0 (.agg #[.int .i64 0, .string ⟨#[]⟩]) 2 24 Try.underlying36 ji0 jz0 jz1 jz2 rfl (by omega) (.slice (some ⟨g1, 0, none⟩) j c1) j (ncells (lateN k N) j) (by rfl) ((HO.out.alloc _).drew) ⟨w1.heap.size, 0, none⟩ 1 1 [.int .i64 ((N j).t + k), .string (N j).s] (by rfl) (by rfl) (World.news_of_block (cs := #[.int .i64 ((N j).t + k), .string (N j).s]) (t := 71) (fr := (0, 0)) (heap_alloc_new w1 _)) (one_note _ _) (by omega) (by unfold maxLen; omega) (by omega) (by simp; omega) (w1.heap.size + 1) (by simp) ?_; intro gg cap w4 hown hgrow hat hlt4))
      all_goals
        have hgrow : (w1.alloc (.cells #[.int .i64 ((N j).t + k), .string (N j).s] 71)).drew.grownBy w4 (some g1) := hgrow
        have hb4 : Below w.heap.size w w4 := (show Below w.heap.size w (w1.alloc (.cells #[.int .i64 ((N j).t + k), .string (N j).s] 71)).drew from (HB.out.alloc hsz _).drew).grown hgrow (by simp; omega) (fun k e => by injection e with e; omega)
        have HO4 := Lib.hid (show w4.ownsRow w.heap.size 71 2 (.slice (some ⟨gg, 0, none⟩) (j + 1) cap) (j + 1) (ncells (lateN k N) (j + 1)) from hown)
        have HB4 := Lib.hid hb4
        clear hown hgrow hat hb4 HO HB x0 x1 hw1
        go_wp2_with fail
        go_roundw
        case rel => exact ⟨j + 1, gg, cap, by omega, by go_num, rfl, HO4.out, HB4.out⟩
        case measure => simp [intOf]; omega
    · obtain rfl : j = m := by omega
      have lg := ho.lt g1 rfl
      have HO := Lib.hid ho
      have HB := Lib.hid hb
      have HJ := Lib.hid ((NsOw.of_owns ho).rn lg.2)
      have hd : ((j : Int) != (j : Int)) = false := eq_lit rfl
      clear ho hb
      go_wp2_with fail
      refine (sRegV _ j c1 (lateN k N) _ HJ.out (by omega)).mono ?_
      rintro e w1 ⟨rfl, rfl⟩
      rw [V.out]
      cases v
      · obtain rfl := Q0.out rfl
        go_wp2
        go_ret2
        exact NotesOut.none_ _ (by have := HB.out.size; have := HB.out; go_grown)
      · obtain rfl := Q1.out rfl
        go_wp2
        go_ret2
        exact NotesRes.out (Below.refl _ _) lg (NsOw.of_owns HO.out) HB.out
set_option maxRecDepth 100000 in
set_option maxHeartbeats 4000000 in
theorem sRegLate_no (A : Option Addr) (m c : Nat) (N M : Nat → ND) (k : Int) (w : World) (h : NsRn w w.heap.size A m N) (hm : m ≤ 1048576) (hok : ¬ okL k N m) :
    Calls Try.prog 41 #[.slice A m c, .int .i64 k] w (NotesOut w false 0 M) := by
  have hm0 : 0 < m := Nat.pos_of_ne_zero fun e => hok (.inl e)
  have hno : regV N m = true → ¬ (-2000 ≤ k ∧ k ≤ 2000) := fun h1 h2 => hok (.inr ⟨h1, h2⟩)
  have H := Lib.hid h
  have NO := Lib.hid hno
  have hd : ((0 : Int) != (m : Int)) = true := ne_lit (by omega)
  clear h hok hno
  go_enter Try.func41, Try.ntmps41
  go_wp2
  go_loopw [6, 7] (fun out i wr => i = .int .i64 0 ∧ out = .slice (some ⟨w.heap.size, 0, none⟩) 0 0 ∧ wr = w.alloc (.cells #[] 71)) (fun _ _ _ => 0)
  case atStart => exact ⟨rfl, rfl, rfl⟩
  case round =>
    obtain ⟨rfl, rfl, rfl⟩ := hrel
    have HR := Lib.hid (H.out.top (.cells #[] 71))
    go_wp2_with fail
    refine (sRegV _ m c N _ HR.out (by omega)).mono ?_
    rintro e w1 ⟨rfl, hw1⟩
    have hb : Below w.heap.size w w1 := by rw [hw1]; go_grown
    have hs := hb.size
    have HB := Lib.hid hb
    clear hw1 hb HR
    cases e1 : regV N m
    · clear e1
      go_wp2
      go_ret2
      exact NotesOut.none_ _ (by have := HB.out; go_grown)
    · have V1 : Hid ((decide (-2000 ≤ k) && decide (k ≤ 2000)) = false) := by
        have := NO.out e1
        show _ = _
        rw [Bool.and_eq_false_iff, decide_eq_false_iff_not, decide_eq_false_iff_not]; omega
      clear e1
      go_wp2_with fail
      refine (sIn_v false _ _ _ _ V1.out).mono ?_
      rintro e w2 ⟨rfl, rfl⟩
      go_wp2
      go_ret2
      exact NotesOut.none_ _ (by have := HB.out; go_grown)
def mixN (k : Int) (N : Nat → ND) (i j : Nat) : ND := if j < i then lateN k N j else N j
theorem Rg.setT {w : World} {lo R m : Nat} {bs : Nat → Nat} {N M : Nat → ND} (h : Rg w lo R m bs N) {i : Nat} (hi : i < m) {v : Int} (hM : M i = ⟨v, (N i).s⟩) (hO : ∀ j, j < m → j ≠ i → M j = N j) : Rg (w.setCell ⟨bs i, 0, none⟩ (.int .i64 v)) lo R m bs M := by
  obtain ⟨h1, h2, h3, h4⟩ := h
  refine ⟨h1, h2.other (by have := (h3 i hi).2.1; simp; omega) _, fun j hj => ?_, h4⟩
  obtain ⟨a1, a2, a3⟩ := h3 j hj
  refine ⟨a1, a2, ?_⟩
  by_cases e : j = i
  · subst e
    rw [hM]
    exact a3.set 0 _
  · rw [hO j hj e]
    exact a3.other (fun x => e (h4 j i hj hi x)) _
set_option maxRecDepth 100000 in
set_option maxHeartbeats 4000000 in
theorem iRegLate_go (v : Bool) (A : Option Addr) (m c : Nat) (N : Nat → ND) (k : Int) (w : World) (h : NsRn w w.heap.size A m N) (hm : m ≤ 1048576) (hok : okL k N m) (hv : regV (lateN k N) m = v) (q : Nat) (hq1 : v = true → q = m) (hq0 : v = false → q = 0) :
    Calls Try.prog 42 #[.slice A m c, .int .i64 k] w (NotesOut w v q (lateN k N)) := by
  have H := Lib.hid h
  have OK := Lib.hid hok
  have V := Lib.hid hv
  have Q1 := Lib.hid hq1
  have Q0 := Lib.hid hq0
  have V1 : Hid (regV N m = true) := by rcases hok with rfl | hok; exact regV_zero N; exact hok.1
  clear h hok hv hq1 hq0
  have hm30 := (regV_iff.1 V1.out).1
  go_enter Try.func42, Try.ntmps42
  go_wp2_with fail
  refine (iRegOf true A m c N _ H.out (by omega) V1.out).mono ?_
  rintro e w1 ⟨bs, rfl, hR, hb1⟩
  have R1 := Lib.hid (hR hm30)
  have HB1 := Lib.hid hb1
  have hs1 := hb1.size
  obtain ⟨x0, x1, x2⟩ := (hR hm30).top
  clear hR hb1 x1
  by_cases h0 : m = 0
  · subst h0
    have ev : v = true := by rw [← V.out]; exact regV_zero _
    subst ev
    obtain rfl := Q1.out rfl
    have hz : (((0 : Nat) : Int) == 0) = true := rfl
    go_wp2
    go_ret2
    exact ⟨_, 0, rfl, ⟨0, fun h => absurd h (by omega), NsOw.nil _ _ _ _⟩, by have := HB1.out; go_grown⟩
  obtain ⟨hk1, hk2⟩ : -2000 ≤ k ∧ k ≤ 2000 := by rcases OK.out with e | e; exact absurd e h0; exact e.2
  have hz : ((m : Int) == 0) = false := beq_eq_false_iff_ne.2 (by omega)
  have d1 : decide (k < -2000) = false := decide_eq_false (by omega)
  have d2 : decide (2000 < k) = false := decide_eq_false (by omega)
  clear OK h0
  go_wp2
  go_loopg [8] m (fun gk p wr => ∃ i : Nat, gk + i = m ∧ p = .pointer (nxt m bs i) ∧ Rg wr w.heap.size w.heap.size m bs (mixN k N i) ∧ Below w.heap.size w wr)
  case atStart => exact ⟨0, by omega, rfl, R1.out.congr (fun i hi => (if_neg (by omega)).symm), HB1.out⟩
  case round =>
    clear x0 x2 R1
    obtain ⟨i, hi, rfl, hA, hb⟩ := hrel
    by_cases hlt : i < m
    · have em : mixN k N i i = N i := if_neg (by omega)
      obtain ⟨y0, y1, y2⟩ := hA.at_ hlt
      rw [em] at y0
      have fz := (hA.2.2.1 i hlt).2.2.frz 0
      have lk := hA.lt.2 i hlt
      have tb := regP_bd (regV_iff.1 V1.out).2 hlt
      have hw1 : IntKind.i64.wrap ((N i).t + k) = (N i).t + k := IntWalk.i64_in _ (by omega)
      have en : nxt m bs i = some ⟨bs i, 0, none⟩ := nxt_lt hlt
      rw [en]
      have HA2 := Lib.hid (hA.setT hlt (v := (N i).t + k) (M := mixN k N (i + 1)) (by rw [em]; exact if_pos (by omega)) (fun j hj hne => by
        unfold mixN
        by_cases c : j < i
        · rw [if_pos c, if_pos (by omega)]
        · rw [if_neg c, if_neg (by omega)]))
      have HBw := Lib.hid hb
      have hlo := (hA.2.2.1 i hlt).1
      have hsz := hb.size
      clear en em hA hb y1
      go_wp2
      go_roundg (gk - 1)
      case measure => omega
      case rel => exact ⟨i + 1, by omega, rfl, HA2.out, HBw.out.setCell (by simp; omega) _⟩
    · obtain rfl : i = m := by omega
      have en : nxt i bs i = none := nxt_ge (Nat.le_refl _)
      rw [en]
      have HA := Lib.hid (hA.congr (M := lateN k N) (fun j hj => if_pos hj))
      have HBw := Lib.hid hb
      clear en hA hb
      go_wp2_with fail
      refine (iRegValid v _ _ i bs (lateN k N) _ HA.out (by omega) V.out).mono ?_
      rintro e w4 ⟨rfl, rfl⟩
      cases v
      · obtain rfl := Q0.out rfl
        go_wp2
        go_ret2
        exact NotesOut.none_ _ (by have := HBw.out.size; have := HBw.out; go_grown)
      · obtain rfl := Q1.out rfl
        go_wp2_with fail
        refine (iList _ _ q bs (lateN k N) _ HA.out (by omega)).mono ?_
        rintro e w5 ⟨g1, c1, rfl, hg1, ho, hb5⟩
        have HO := Lib.hid ho
        clear ho
        go_wp2
        go_ret2
        exact NotesRes.out HBw.out hg1 HO.out hb5
set_option maxRecDepth 100000 in
set_option maxHeartbeats 4000000 in
theorem iRegLate_no (A : Option Addr) (m c : Nat) (N M : Nat → ND) (k : Int) (w : World) (h : NsRn w w.heap.size A m N) (hm : m ≤ 1048576) (hok : ¬ okL k N m) :
    Calls Try.prog 42 #[.slice A m c, .int .i64 k] w (NotesOut w false 0 M) := by
  have hm0 : 0 < m := Nat.pos_of_ne_zero fun e => hok (.inl e)
  have hno : regV N m = true → ¬ (-2000 ≤ k ∧ k ≤ 2000) := fun h1 h2 => hok (.inr ⟨h1, h2⟩)
  have H := Lib.hid h
  have NO := Lib.hid hno
  obtain ⟨v1, e1⟩ : ∃ v1, regV N m = v1 := ⟨_, rfl⟩
  have V1 := Lib.hid e1
  have hz : ((m : Int) == 0) = false := beq_eq_false_iff_ne.2 (by omega)
  clear h hok hno e1
  go_enter Try.func42, Try.ntmps42
  go_wp2_with fail
  refine (iRegOf v1 A m c N _ H.out (by omega) V1.out).mono ?_
  rintro e w1 ⟨bs, rfl, hR, hb1⟩
  have HB1 := Lib.hid hb1
  have hs1 := hb1.size
  cases v1
  · clear hR hb1
    go_wp2
    go_ret2
    exact NotesOut.none_ _ (by have := HB1.out; go_grown)
  · obtain ⟨x0, x1, x2⟩ := (hR (regV_iff.1 V1.out).1).top
    have hk := NO.out V1.out
    clear hR hb1 x0 x1
    by_cases c1 : k < -2000
    · have d1 : decide (k < -2000) = true := decide_eq_true c1
      clear hk c1
      go_wp2
      go_ret2
      exact NotesOut.none_ _ (by have := HB1.out; go_grown)
    · have d1 : decide (k < -2000) = false := decide_eq_false c1
      have d2 : decide (2000 < k) = true := decide_eq_true (by omega)
      clear hk c1
      go_wp2
      go_ret2
      exact NotesOut.none_ _ (by have := HB1.out; go_grown)
/-- What both RegisterLate give. -/
theorem d_RegLate (m : Nat) (N : Nat → ND) (k : Int) (hm : m ≤ 1048576) : ∃ (ok : Bool) (q : Nat) (M : Nat → ND), q ≤ 60 ∧
    (∀ (W : World) (g d : Nat), m ≤ d → NsRn W W.heap.size (some ⟨g, 0, none⟩) m N → Calls Try.prog 41 #[.slice (some ⟨g, 0, none⟩) m d, .int .i64 k] W (NotesOut W ok q M)) ∧
    (∀ (W : World) (g d : Nat), m ≤ d → NsRn W W.heap.size (some ⟨g, 0, none⟩) m N → Calls Try.prog 42 #[.slice (some ⟨g, 0, none⟩) m d, .int .i64 k] W (NotesOut W ok q M)) := by
  rcases Classical.em (okL k N m) with hok | hok
  · have hm30 : m ≤ 30 := by rcases hok with h | h; omega; exact (regV_iff.1 h.1).1
    refine ⟨regV (lateN k N) m, if regV (lateN k N) m = true then m else 0, lateN k N, by split <;> omega, fun W g d hd h => sRegLate_go _ g m d N k W h hm hok rfl _ (fun e => if_pos e) (fun e => if_neg (by rw [e]; simp)), fun W g d hd h => iRegLate_go _ _ m d N k W h hm hok rfl _ (fun e => if_pos e) (fun e => if_neg (by rw [e]; simp))⟩
  · exact ⟨false, 0, N, by omega, fun W g d hd h => sRegLate_no _ m d N N k W h hm hok, fun W g d hd h => iRegLate_no _ m d N N k W h hm hok⟩
end Go.Proofs.Ytanfhgliilkhjaa
