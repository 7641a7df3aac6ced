/-
  Words for memory: a slice of paths that is read; one that the call has made.
-/
import Derived.Test.YtjppkcfbhhjniaaHold
import Derived.Test.YtjppkcfbhhjniaaPathP
namespace Go.Proofs.Ytjppkcfbhhjniaa
open Go.RowKit Go.Deep

/-- The slice (A, n) reads as the paths D; all its memory lies below block B. -/
def PsRn (w : World) (B : Nat) (A : Option Addr) (n : Nat) (D : Nat → PD) : Prop :=
  0 < n → ∃ b off, A = some ⟨b, off, none⟩ ∧ b < B ∧ ∀ i, i < n → ∃ a1 c1 a2 c2, w.cell? ⟨b, off + i * 2, none⟩ = some (.slice a1 (D i).m1 c1) ∧ w.cell? ⟨b, off + i * 2 + 1, none⟩ = some (.slice a2 (D i).m2 c2) ∧ Rn w B a1 (D i).m1 (D i).f1 ∧ Rn w B a2 (D i).m2 (D i).f2
section
variable {B b n lo hi : Nat} {w w' : World} {A : Option Addr} {D : Nat → PD}
theorem PsRn.keep (h : PsRn w B A n D) (hk : ∀ k, k < B → w'.heap[k]? = w.heap[k]?) : PsRn w' B A n D := fun hn => by
  obtain ⟨b, off, e, hb, hc⟩ := h hn
  refine ⟨b, off, e, hb, fun i hi => ?_⟩
  obtain ⟨a1, c1, a2, c2, h1, h2, h3, h4⟩ := hc i hi
  exact ⟨a1, c1, a2, c2, (World.cell?_of_block (a := ⟨b, off + i * 2, none⟩) (hk b hb)).trans h1, (World.cell?_of_block (a := ⟨b, off + i * 2 + 1, none⟩) (hk b hb)).trans h2, h3.keep hk, h4.keep hk⟩
theorem PsRn.up (h : PsRn w B A n D) {C : Nat} (hC : B ≤ C) : PsRn w C A n D := fun hn => by
  obtain ⟨b, off, e, hb, hc⟩ := h hn
  refine ⟨b, off, e, by omega, fun i hi => ?_⟩
  obtain ⟨a1, c1, a2, c2, h1, h2, h3, h4⟩ := hc i hi
  exact ⟨a1, c1, a2, c2, h1, h2, h3.up hC, h4.up hC⟩
theorem PsRn.below (h : PsRn w B A n D) (hb : Below B w w') : PsRn w' B A n D := h.keep hb.block
theorem PsRn.call (h : PsRn w B A n D) (hB : B ≤ w.heap.size) (hb : Below w.heap.size w w') : PsRn w' B A n D := h.below (hb.mono hB)
theorem PsRn.alloc (h : PsRn w B A n D) (hB : B ≤ w.heap.size) (o : Obj) : PsRn (w.alloc o) B A n D := h.keep fun _ hk => blk_alloc_lt _ _ _ (by omega)
theorem PsRn.top (h : PsRn w w.heap.size A n D) (o : Obj) : PsRn (w.alloc o) (w.alloc o).heap.size A n D := (h.alloc (Nat.le_refl _) _).up (by simp)
theorem PsRn.topd (h : PsRn w w.heap.size A n D) : PsRn w.drew w.drew.heap.size A n D := h
theorem PsRn.topq (h : PsRn w w.heap.size A n D) (q : Nat) : PsRn (w.drewN q) (w.drewN q).heap.size A n D := h
theorem PsRn.topb (h : PsRn w w.heap.size A n D) (hb : Below w.heap.size w w') : PsRn w' w'.heap.size A n D := (h.below hb).up hb.size
theorem PsRn.drewN (h : PsRn w B A n D) (q : Nat) : PsRn (w.drewN q) B A n D := h
theorem PsRn.less (h : PsRn w B A n D) {m : Nat} (hm : m ≤ n) : PsRn w B A m D := fun hn => by
  obtain ⟨b, off, e, hb, hc⟩ := h (by omega)
  exact ⟨b, off, e, hb, fun i hi => hc i (by omega)⟩
theorem PsRn.congr (h : PsRn w B A n D) {E : Nat → PD} (e : ∀ i, i < n → D i = E i) : PsRn w B A n E := fun hn => by
  obtain ⟨b, off, e1, hb, hc⟩ := h hn
  exact ⟨b, off, e1, hb, fun i hi => by rw [← e i hi]; exact hc i hi⟩
/-- One path of the slice. -/
theorem PsRn.at_ (h : PsRn w B A n D) {i : Nat} (hi : i < n) : ∃ b off a1 c1 a2 c2 m1 f1 m2 f2, A = some ⟨b, off, none⟩ ∧ b < B ∧ D i = ⟨m1, f1, m2, f2⟩ ∧ w.cell? ⟨b, off + i * 2, none⟩ = some (.slice a1 m1 c1) ∧ w.cell? ⟨b, off + i * 2 + 1, none⟩ = some (.slice a2 m2 c2) ∧ Rn w B a1 m1 f1 ∧ Rn w B a2 m2 f2 := by
  obtain ⟨b, off, e, hb, hc⟩ := h (by omega)
  obtain ⟨a1, c1, a2, c2, h1, h2, h3, h4⟩ := hc i hi
  exact ⟨b, off, a1, c1, a2, c2, _, _, _, _, e, hb, rfl, h1, h2, h3, h4⟩
end
/-- A slice of paths that a call has made, or is about to make: k of n paths are in; their memory lies from block lo on and below hi, no two slices in one block. -/
def PsPart (w : World) (T : TypeId) (lo hi g n k : Nat) (D : Nat → PD) : Prop :=
  ∃ (G : Nat → Nat) (F : Nat → Value), lo ≤ g ∧ g < hi ∧ (∀ i, i < k * 2 → lo ≤ G i ∧ G i < hi ∧ G i ≠ g) ∧ (∀ i j, i < k * 2 → j < k * 2 → G i = G j → i = j) ∧ w.rowIs g T (n * 2) F ∧
    ∀ i, i < k → ∃ a1 c1 a2 c2, F (i * 2) = .slice a1 (D i).m1 c1 ∧ F (i * 2 + 1) = .slice a2 (D i).m2 c2 ∧ Ow w (G (i * 2)) a1 (D i).m1 (D i).f1 ∧ Ow w (G (i * 2 + 1)) a2 (D i).m2 (D i).f2
section
variable {T lo hi g n k : Nat} {w w' : World} {D : Nat → PD}
theorem PsPart.keep (h : PsPart w T lo hi g n k D) (hs : w.heap.size ≤ w'.heap.size) (hk : ∀ b, lo ≤ b → b < hi → w'.heap[b]? = w.heap[b]?) : PsPart w' T lo hi g n k D := by
  obtain ⟨G, F, h1, h2, h3, h4, ⟨c, hc, hr⟩, h6⟩ := h
  refine ⟨G, F, h1, h2, h3, h4, ⟨c, (hk g h1 h2).trans hc, hr⟩, fun i hi => ?_⟩
  obtain ⟨a1, c1, a2, c2, e1, e2, o1, o2⟩ := h6 i hi
  have q1 := h3 (i * 2) (by omega)
  have q2 := h3 (i * 2 + 1) (by omega)
  exact ⟨a1, c1, a2, c2, e1, e2, o1.of (hk _ q1.1 q1.2.1) hs, o2.of (hk _ q2.1 q2.2.1) hs⟩
theorem PsPart.rn (h : PsPart w T lo hi g n n D) {B : Nat} (hB : hi ≤ B) : PsRn w B (some ⟨g, 0, none⟩) n D := fun hn => by
  obtain ⟨G, F, h1, h2, h3, h4, hr, h6⟩ := h
  refine ⟨g, 0, rfl, by omega, fun i hi => ?_⟩
  obtain ⟨a1, c1, a2, c2, e1, e2, o1, o2⟩ := h6 i hi
  have q1 := h3 (i * 2) (by omega)
  have q2 := h3 (i * 2 + 1) (by omega)
  exact ⟨a1, c1, a2, c2, by rw [Nat.zero_add, hr.cell (by omega), e1], by rw [Nat.zero_add, hr.cell (by omega), e2], o1.rn (by omega), o2.rn (by omega)⟩
theorem PsPart.start (w : World) (T n g lo hi : Nat) (D : Nat → PD) (F : Nat → Value) (h1 : lo ≤ g) (h2 : g < hi) (hr : w.rowIs g T (n * 2) F) : PsPart w T lo hi g n 0 D :=
  ⟨fun _ => 0, F, h1, h2, fun i hi => absurd hi (by omega), fun i j hi => absurd hi (by omega), hr, fun i hi => absurd hi (by omega)⟩
/-- One more path is put in. -/
theorem PsPart.put (h : PsPart w T lo hi g n k D) (hk : k < n) (hhi : hi ≤ w.heap.size) (hb : Below w.heap.size w w') {a1 a2 : Option Addr} {c1 c2 b1 b2 : Nat} (hl : b1 < b2) (hl1 : w.heap.size ≤ b1) (hl2 : b2 < w'.heap.size)
    (o1 : Ow w' b1 a1 (D k).m1 (D k).f1) (o2 : Ow w' b2 a2 (D k).m2 (D k).f2) :
    PsPart ((w'.setCell ⟨g, k * 2, none⟩ (.slice a1 (D k).m1 c1)).setCell ⟨g, k * 2 + 1, none⟩ (.slice a2 (D k).m2 c2)) T lo w'.heap.size g n (k + 1) D := by
  have h' := h.keep (w' := w') hb.size (fun b _ hb1 => hb.block b (by omega))
  obtain ⟨G, F, h1, h2, h3, h4, hr, h6⟩ := h'
  have hsz := hb.size
  refine ⟨fun i => if i = k * 2 then b1 else if i = k * 2 + 1 then b2 else G i, _, h1, by omega, fun i hi => ?_, fun i j hi hj e => ?_, (hr.set (i := k * 2) (v := .slice a1 (D k).m1 c1)).set (i := k * 2 + 1) (v := .slice a2 (D k).m2 c2), fun i hi => ?_⟩
  · by_cases e1 : i = k * 2
    · simp only [if_pos e1]; omega
    · by_cases e2 : i = k * 2 + 1
      · simp only [if_neg e1, if_pos e2]; omega
      · simp only [if_neg e1, if_neg e2]
        have := h3 i (by omega)
        omega
  · have bd : ∀ i, i < k * 2 → G i < w.heap.size := fun i hi => by have := (h3 i hi).2.1; omega
    simp only at e
    by_cases i1 : i = k * 2
    · rw [if_pos i1] at e
      by_cases j1 : j = k * 2
      · omega
      · rw [if_neg j1] at e
        by_cases j2 : j = k * 2 + 1
        · rw [if_pos j2] at e; omega
        · rw [if_neg j2] at e; have := bd j (by omega); omega
    · rw [if_neg i1] at e
      by_cases i2 : i = k * 2 + 1
      · rw [if_pos i2] at e
        by_cases j1 : j = k * 2
        · rw [if_pos j1] at e; omega
        · rw [if_neg j1] at e
          by_cases j2 : j = k * 2 + 1
          · omega
          · rw [if_neg j2] at e; have := bd j (by omega); omega
      · rw [if_neg i2] at e
        by_cases j1 : j = k * 2
        · rw [if_pos j1] at e; have := bd i (by omega); omega
        · rw [if_neg j1] at e
          by_cases j2 : j = k * 2 + 1
          · rw [if_pos j2] at e; have := bd i (by omega); omega
          · rw [if_neg j2] at e; exact h4 i j (by omega) (by omega) e
  · by_cases e : i = k
    · subst e
      refine ⟨a1, c1, a2, c2, ?_, ?_, ?_, ?_⟩
      · rw [if_neg (by omega), if_pos rfl]
      · rw [if_pos rfl]
      · simp only [if_pos]; exact (o1.store (a := ⟨g, i * 2, none⟩) (by simp; omega) _).store (a := ⟨g, i * 2 + 1, none⟩) (by simp; omega) _
      · simp only [if_neg (show ¬ i * 2 + 1 = i * 2 by omega), if_pos]; exact (o2.store (a := ⟨g, i * 2, none⟩) (by simp; omega) _).store (a := ⟨g, i * 2 + 1, none⟩) (by simp; omega) _
    · obtain ⟨d1, e1, d2, e2, q1, q2, q3, q4⟩ := h6 i (by omega)
      have z1 := h3 (i * 2) (by omega)
      have z2 := h3 (i * 2 + 1) (by omega)
      refine ⟨d1, e1, d2, e2, ?_, ?_, ?_, ?_⟩
      · rw [if_neg (by omega), if_neg (by omega), q1]
      · rw [if_neg (by omega), if_neg (by omega), q2]
      · simp only [if_neg (show ¬ i * 2 = k * 2 by omega), if_neg (show ¬ i * 2 = k * 2 + 1 by omega)]
        exact (q3.store (a := ⟨g, k * 2, none⟩) (by simp; omega) _).store (a := ⟨g, k * 2 + 1, none⟩) (by simp; omega) _
      · simp only [if_neg (show ¬ i * 2 + 1 = k * 2 by omega), if_neg (show ¬ i * 2 + 1 = k * 2 + 1 by omega)]
        exact (q4.store (a := ⟨g, k * 2, none⟩) (by simp; omega) _).store (a := ⟨g, k * 2 + 1, none⟩) (by simp; omega) _
end
/-- Slices of paths as things that hold. -/
def psA (B : Nat) (A : Option Addr) (n : Nat) (D : Nat → PD) : Atom := ⟨0, B, fun W => PsRn W B A n D⟩
theorem psA_ok (B : Nat) (A : Option Addr) (n : Nat) (D : Nat → PD) : (psA B A n D).ok := fun _ _ h _ hk => PsRn.keep h (fun k hk1 => hk k (Nat.zero_le _) hk1)
def ptA (T lo hi g n : Nat) (D : Nat → PD) : Atom := ⟨lo, hi, fun W => PsPart W T lo hi g n n D⟩
theorem ptA_ok (T lo hi g n : Nat) (D : Nat → PD) : (ptA T lo hi g n D).ok := fun _ _ h hs hk => PsPart.keep h hs hk
section
variable {W : World} {l : List Atom} {T B lo hi g n : Nat} {A : Option Addr} {D : Nat → PD}
theorem Hold.ps (h : Hold W l) (hB : B ≤ W.heap.size) (hr : PsRn W B A n D) : Hold W (psA B A n D :: l) := h.cons (psA_ok _ _ _ _) hB hr
theorem Hold.pt (h : Hold W l) (hB : hi ≤ W.heap.size) (hr : PsPart W T lo hi g n n D) : Hold W (ptA T lo hi g n D :: l) := h.cons (ptA_ok _ _ _ _ _ _) hB hr
theorem Hold.psup (h : Hold W (psA B A n D :: l)) : PsRn W W.heap.size A n D := PsRn.up h.hd h.hi
theorem Hold.ptrn (h : Hold W (ptA T lo hi g n D :: l)) : PsRn W W.heap.size (some ⟨g, 0, none⟩) n D := PsPart.rn h.hd h.hi
end
end Go.Proofs.Ytjppkcfbhhjniaa
