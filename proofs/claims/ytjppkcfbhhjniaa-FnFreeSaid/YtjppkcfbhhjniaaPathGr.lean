/-
  Words for memory: a slice of paths that grows by append. Contract of markPathS at such a slice.
-/
import Derived.Test.YtjppkcfbhhjniaaPathHd
import Derived.Test.YtjppkcfbhhjniaaPathC
namespace Go.Proofs.Ytjppkcfbhhjniaa
open Go.RowKit Go.Deep
set_option linter.unusedVariables false

/-- k paths of a growing slice in block g: their cells xs, their blocks G, from lo on and below hi. -/
structure PsG0 (w : World) (lo hi g k : Nat) (D : Nat → PD) (G : Nat → Nat) (xs : List Value) : Prop where
  len : xs.length = k * 2
  gr : lo ≤ g ∧ g < hi
  rng : ∀ i, i < k * 2 → lo ≤ G i ∧ G i < hi ∧ G i ≠ g
  inj : ∀ i j, i < k * 2 → j < k * 2 → G i = G j → i = j
  at_ : ∀ i, i < k → ∃ a1 c1 a2 c2, xs[i * 2]? = some (.slice a1 (D i).m1 c1) ∧ xs[i * 2 + 1]? = some (.slice a2 (D i).m2 c2) ∧ Ow w (G (i * 2)) a1 (D i).m1 (D i).f1 ∧ Ow w (G (i * 2 + 1)) a2 (D i).m2 (D i).f2
/-- A slice of paths that a call has made by append: k paths are in, there is room for c. -/
def PsGr (w : World) (T : TypeId) (lo hi g k c : Nat) (D : Nat → PD) : Prop :=
  ∃ (G : Nat → Nat) (xs : List Value), PsG0 w lo hi g k D G xs ∧ w.ownsRow lo T 2 (.slice (some ⟨g, 0, none⟩) k c) k xs
section
variable {T lo hi g n k c : Nat} {w w' : World} {D : Nat → PD} {G : Nat → Nat} {xs : List Value}
theorem PsG0.keep (h : PsG0 w lo hi g k D G xs) (hs : w.heap.size ≤ w'.heap.size) (hk : ∀ b, lo ≤ b → b < hi → b ≠ g → w'.heap[b]? = w.heap[b]?) : PsG0 w' lo hi g k D G xs :=
  ⟨h.len, h.gr, h.rng, h.inj, fun i hi => by
    obtain ⟨a1, c1, a2, c2, e1, e2, o1, o2⟩ := h.at_ i hi
    have q1 := h.rng (i * 2) (by omega)
    have q2 := h.rng (i * 2 + 1) (by omega)
    exact ⟨a1, c1, a2, c2, e1, e2, o1.of (hk _ q1.1 q1.2.1 q1.2.2) hs, o2.of (hk _ q2.1 q2.2.1 q2.2.2) hs⟩⟩
theorem PsG0.up (h : PsG0 w lo hi g k D G xs) {h2 : Nat} (hh : hi ≤ h2) : PsG0 w lo h2 g k D G xs :=
  ⟨h.len, ⟨h.gr.1, by have := h.gr.2; omega⟩, fun i hi => by have := h.rng i hi; omega, h.inj, h.at_⟩
theorem PsG0.call (h : PsG0 w lo hi g k D G xs) (hB : hi ≤ w.heap.size) (hb : Below w.heap.size w w') : PsG0 w' lo hi g k D G xs := h.keep hb.size fun b _ hb1 _ => hb.block b (by omega)
theorem PsG0.alloc (h : PsG0 w lo hi g k D G xs) (hB : hi ≤ w.heap.size) (o : Obj) : PsG0 (w.alloc o) lo hi g k D G xs := h.keep (by simp) fun b _ hb1 _ => blk_alloc_lt _ _ _ (by omega)
theorem PsG0.drewN (h : PsG0 w lo hi g k D G xs) (q : Nat) : PsG0 (w.drewN q) lo hi g k D G xs := h.keep (Nat.le_refl _) fun _ _ _ _ => rfl
theorem PsG0.store (h : PsG0 w lo hi g k D G xs) {a : Addr} (ha : hi ≤ a.block ∨ a.block < lo) (v : Value) : PsG0 (w.setCell a v) lo hi g k D G xs := h.keep (by simp [World.setCell]) fun b h1 h2 _ => blk_setCell_other _ _ _ _ (by omega)
/-- Nothing is in yet. -/
theorem PsG0.start (w : World) (D : Nat → PD) (hg : lo ≤ g ∧ g < hi) : PsG0 w lo hi g 0 D (fun _ => 0) [] :=
  ⟨rfl, hg, fun i hi => absurd hi (by omega), fun i j hi => absurd hi (by omega), fun i hi => absurd hi (by omega)⟩
/-- One more path is in. -/
theorem PsG0.put (h : PsG0 w lo hi g k D G xs) (hg : w.grownBy w' (some g)) {lo' b1 b2 hi' g' c1 c2 n1 n2 : Nat} {a1 a2 : Option Addr} {f1 f2 : Nat → Int} (hD : D k = ⟨n1, f1, n2, f2⟩) (hb1 : lo' ≤ b1 ∧ b1 < hi' ∧ (hi ≤ b1 ∨ b1 < lo)) (hb2 : lo' ≤ b2 ∧ b2 < hi' ∧ (hi ≤ b2 ∨ b2 < lo)) (hne : b1 ≠ b2)
    (hg' : g' = g ∨ (hi ≤ g' ∧ g' < hi' ∧ g' ≠ b1 ∧ g' ≠ b2)) (hl : lo' ≤ lo) (hh : hi ≤ hi') (o1 : Ow w b1 a1 n1 f1) (o2 : Ow w b2 a2 n2 f2) :
    PsG0 w' lo' hi' g' (k + 1) D (fun i => if i = k * 2 then b1 else if i = k * 2 + 1 then b2 else G i) (xs ++ [.slice a1 n1 c1, .slice a2 n2 c2]) := by
  have hgr := h.gr
  have hlen := h.len
  refine ⟨by rw [List.length_append, h.len]; simp; omega, by omega, fun i hi => ?_, fun i j hi hj e => ?_, fun i hi => ?_⟩
  · by_cases e1 : i = k * 2
    · simp only [if_pos e1]; omega
    · by_cases e2 : i = k * 2 + 1
      · simp only [if_neg e1, if_pos e2]; omega
      · simp only [if_neg e1, if_neg e2]
        have := h.rng i (by omega)
        omega
  · have bd : ∀ i, i < k * 2 → G i ≠ b1 ∧ G i ≠ b2 := fun i hi => by have := h.rng i hi; omega
    by_cases i1 : i = k * 2
    · rw [if_pos i1] at e
      by_cases j1 : j = k * 2
      · omega
      · rw [if_neg j1] at e
        by_cases j2 : j = k * 2 + 1
        · rw [if_pos j2] at e; omega
        · rw [if_neg j2] at e; have := bd j (by omega); omega
    · rw [if_neg i1] at e
      by_cases i2 : i = k * 2 + 1
      · rw [if_pos i2] at e
        by_cases j1 : j = k * 2
        · rw [if_pos j1] at e; omega
        · rw [if_neg j1] at e
          by_cases j2 : j = k * 2 + 1
          · omega
          · rw [if_neg j2] at e; have := bd j (by omega); omega
      · rw [if_neg i2] at e
        by_cases j1 : j = k * 2
        · rw [if_pos j1] at e; have := bd i (by omega); omega
        · rw [if_neg j1] at e
          by_cases j2 : j = k * 2 + 1
          · rw [if_pos j2] at e; have := bd i (by omega); omega
          · rw [if_neg j2] at e; exact h.inj i j (by omega) (by omega) e
  · by_cases e : i = k
    · subst e
      rw [hD]
      refine ⟨a1, c1, a2, c2, ?_, ?_, ?_, ?_⟩
      · rw [List.getElem?_append_right (by omega), hlen]; simp
      · rw [List.getElem?_append_right (by omega), hlen]
        have e : i * 2 + 1 - i * 2 = 1 := by omega
        rw [e]; rfl
      · simp only [if_pos]; exact o1.grown (by omega) hg
      · simp only [if_neg (show ¬ i * 2 + 1 = i * 2 by omega), if_pos]; exact o2.grown (by omega) hg
    · obtain ⟨d1, e1, d2, e2, q1, q2, q3, q4⟩ := h.at_ i (by omega)
      have z1 := h.rng (i * 2) (by omega)
      have z2 := h.rng (i * 2 + 1) (by omega)
      refine ⟨d1, e1, d2, e2, ?_, ?_, ?_, ?_⟩
      · rw [List.getElem?_append_left (by omega), q1]
      · rw [List.getElem?_append_left (by omega), q2]
      · simp only [if_neg (show ¬ i * 2 = k * 2 by omega), if_neg (show ¬ i * 2 = k * 2 + 1 by omega)]
        exact q3.grown (by omega) hg
      · simp only [if_neg (show ¬ i * 2 + 1 = k * 2 by omega), if_neg (show ¬ i * 2 + 1 = k * 2 + 1 by omega)]
        exact q4.grown (by omega) hg
theorem PsGr.up (h : PsGr w T lo hi g k c D) {h2 : Nat} (hh : hi ≤ h2) : PsGr w T lo h2 g k c D := by
  obtain ⟨G, xs, h0, h1⟩ := h
  exact ⟨G, xs, h0.up hh, h1⟩
theorem PsGr.call (h : PsGr w T lo hi g k c D) (hB : hi ≤ w.heap.size) (hb : Below w.heap.size w w') : PsGr w' T lo hi g k c D := by
  obtain ⟨G, xs, h0, h1⟩ := h
  exact ⟨G, xs, h0.call hB hb, h1.kept (row := none) ⟨hb.os, hb.tape, hb.output, hb.size, fun k hk _ => hb.block k hk⟩ (.inr (by simp [Value.ownBlock]))⟩
theorem PsGr.part (h : PsGr w T lo hi g k c D) : k ≤ c ∧ PsPart w T lo hi g c k D := by
  obtain ⟨G, xs, h0, hl, h1⟩ := h
  rcases h1 with ⟨hv, _⟩ | ⟨g', cap', cur, hv, hb, hg, r1, r2, r3, r4⟩
  · cases hv
  · simp only [Value.slice.injEq, Option.some.injEq, Addr.mk.injEq, and_true, true_and] at hv
    obtain ⟨rfl, rfl⟩ := hv
    refine ⟨r1, G, fun i => cur[i]?.getD (.slice none 0 0), h0.gr.1, h0.gr.2, h0.rng, h0.inj, ⟨cur, hg, r3, fun i hi => by simp [Array.getElem?_eq_getElem (show i < cur.size by omega)]⟩, fun i hi => ?_⟩
    obtain ⟨a1, c1, a2, c2, e1, e2, o1, o2⟩ := h0.at_ i hi
    refine ⟨a1, c1, a2, c2, ?_, ?_, o1, o2⟩
    · rw [← r4, List.getElem?_take_of_lt (by omega), Array.getElem?_toList] at e1; simp only [e1]; rfl
    · rw [← r4, List.getElem?_take_of_lt (by omega), Array.getElem?_toList] at e2; simp only [e2]; rfl
theorem PsPart.rnk (h : PsPart w T lo hi g n k D) (hkn : k ≤ n) {B : Nat} (hB : hi ≤ B) : PsRn w B (some ⟨g, 0, none⟩) k D := fun hn => by
  obtain ⟨G, F, h1, h2, h3, h4, hr, h6⟩ := h
  refine ⟨g, 0, rfl, by omega, fun i hi => ?_⟩
  obtain ⟨a1, c1, a2, c2, e1, e2, o1, o2⟩ := h6 i hi
  have q1 := h3 (i * 2) (by omega)
  have q2 := h3 (i * 2 + 1) (by omega)
  exact ⟨a1, c1, a2, c2, by rw [Nat.zero_add, hr.cell (by omega), e1], by rw [Nat.zero_add, hr.cell (by omega), e2], o1.rn (by omega), o2.rn (by omega)⟩
theorem PsGr.rn (h : PsGr w T lo hi g k c D) {B : Nat} (hB : hi ≤ B) : PsRn w B (some ⟨g, 0, none⟩) k D := h.part.2.rnk h.part.1 hB
def setF1 (E : Nat → PD) (i : Nat) (f : Nat → Int) : Nat → PD := fun j => if j = i then ⟨(E i).m1, f, (E i).m2, (E i).f2⟩ else E j
def setF2 (E : Nat → PD) (i : Nat) (f : Nat → Int) : Nat → PD := fun j => if j = i then ⟨(E i).m1, (E i).f1, (E i).m2, f⟩ else E j
theorem PsPart.atk {E : Nat → PD} (h : PsPart w T lo hi g n k E) (hkn : k ≤ n) {i : Nat} (hi' : i < k) : ∃ a1 c1 a2 c2 b1 b2, w.cell? ⟨g, i * 2, none⟩ = some (.slice a1 (E i).m1 c1) ∧ w.cell? ⟨g, i * 2 + 1, none⟩ = some (.slice a2 (E i).m2 c2) ∧
    (lo ≤ b1 ∧ b1 < hi) ∧ (lo ≤ b2 ∧ b2 < hi) ∧ Ow w b1 a1 (E i).m1 (E i).f1 ∧ Ow w b2 a2 (E i).m2 (E i).f2 ∧ (∀ w' f', w.grownBy w' (some b1) → Ow w' b1 a1 (E i).m1 f' → PsPart w' T lo hi g n k (setF1 E i f')) ∧ (∀ w' f', w.grownBy w' (some b2) → Ow w' b2 a2 (E i).m2 f' → PsPart w' T lo hi g n k (setF2 E i f')) := by
  obtain ⟨G, F, h1, h2, h3, h4, hr, h6⟩ := h
  obtain ⟨a1, c1, a2, c2, e1, e2, o1, o2⟩ := h6 i hi'
  have q1 := h3 (i * 2) (by omega)
  have q2 := h3 (i * 2 + 1) (by omega)
  refine ⟨a1, c1, a2, c2, G (i * 2), G (i * 2 + 1), by rw [hr.cell (by omega), e1], by rw [hr.cell (by omega), e2], ⟨q1.1, q1.2.1⟩, ⟨q2.1, q2.2.1⟩, o1, o2, fun w' f' hg ho => ?_, fun w' f' hg ho => ?_⟩
  · refine ⟨G, F, h1, h2, h3, h4, ?_, fun j hj => ?_⟩
    · obtain ⟨c, hc, hrr⟩ := hr
      exact ⟨c, (hg.block g (lt_of_block hc) (fun e => q1.2.2 (by injection e with e; exact e.symm))).trans hc, hrr⟩
    · by_cases e : j = i
      · subst e
        simp only [setF1, if_true]
        exact ⟨a1, c1, a2, c2, e1, e2, ho, o2.grown (fun e => by have := h4 (j * 2 + 1) (j * 2) (by omega) (by omega) e; omega) hg⟩
      · simp only [setF1, if_neg e]
        obtain ⟨d1, k1, d2, k2, z1, z2, p1, p2⟩ := h6 j hj
        exact ⟨d1, k1, d2, k2, z1, z2, p1.grown (fun x => by have := h4 (j * 2) (i * 2) (by omega) (by omega) x; omega) hg, p2.grown (fun x => by have := h4 (j * 2 + 1) (i * 2) (by omega) (by omega) x; omega) hg⟩
  · refine ⟨G, F, h1, h2, h3, h4, ?_, fun j hj => ?_⟩
    · obtain ⟨c, hc, hrr⟩ := hr
      exact ⟨c, (hg.block g (lt_of_block hc) (fun e => q2.2.2 (by injection e with e; exact e.symm))).trans hc, hrr⟩
    · by_cases e : j = i
      · subst e
        simp only [setF2, if_true]
        exact ⟨a1, c1, a2, c2, e1, e2, o1.grown (fun e => by have := h4 (j * 2) (j * 2 + 1) (by omega) (by omega) e; omega) hg, ho⟩
      · simp only [setF2, if_neg e]
        obtain ⟨d1, k1, d2, k2, z1, z2, p1, p2⟩ := h6 j hj
        exact ⟨d1, k1, d2, k2, z1, z2, p1.grown (fun x => by have := h4 (j * 2) (i * 2 + 1) (by omega) (by omega) x; omega) hg, p2.grown (fun x => by have := h4 (j * 2 + 1) (i * 2 + 1) (by omega) (by omega) x; omega) hg⟩
end
/-- What the marks of the first j paths leave: the lengths are as they were. -/
def MkR (D : Nat → PD) (k0 : Int) (E : Nat → PD) (n j : Nat) : Prop := (∀ i, i < n → (E i).m1 = (D i).m1 ∧ (E i).m2 = (D i).m2) ∧ marked D k0 E j
theorem MkR.step {D E : Nat → PD} {k0 : Int} {n j : Nat} (h : MkR D k0 E n j) (hj : j < n) (u : Int) (hu : u = k0 + tot D j) : MkR D k0 (setF2 (setF1 E j (fun i => u + i)) j (fun i => u + (D j).m1 + i)) n (j + 1) := by
  obtain ⟨h1, h2⟩ := h
  refine ⟨fun i hi => ?_, fun i hi => ?_⟩
  · by_cases e : i = j
    · subst e; simpa [setF1, setF2] using h1 i hi
    · simpa [setF1, setF2, e] using h1 i hi
  · by_cases e : i = j
    · subst e
      obtain ⟨l1, l2⟩ := h1 i hj
      simp only [setF1, setF2, if_true]
      exact ⟨l1, l2, fun q _ => by rw [hu], fun q _ => by rw [hu]⟩
    · simpa [setF1, setF2, e] using h2 i (by omega)
end Go.Proofs.Ytjppkcfbhhjniaa
