/-
  Words for memory: what a draw of paths has made.
-/
import Derived.Test.YtjppkcfbhhjniaaPathAq
import Derived.Test.YtjppkcfbhhjniaaDraw1
namespace Go.Proofs.Ytjppkcfbhhjniaa
open Go.RowKit Go.Deep
set_option linter.unusedVariables false

/-- The slice (A, n) reads as the numbers f; its cells lie from block lo on. -/
def Rl (w : World) (lo : Nat) (A : Option Addr) (n : Nat) (f : Nat → Int) : Prop :=
  0 < n → ∃ b off, A = some ⟨b, off, none⟩ ∧ lo ≤ b ∧ b < w.heap.size ∧ ∀ i, i < n → w.cell? ⟨b, off + i, none⟩ = some (.int .i64 (f i))
section
variable {w w' : World} {lo n b : Nat} {A : Option Addr} {f : Nat → Int}
theorem Rl.keep (h : Rl w lo A n f) (hs : w.heap.size ≤ w'.heap.size) (hk : ∀ k, lo ≤ k → k < w.heap.size → w'.heap[k]? = w.heap[k]?) : Rl w' lo A n f := fun hn => by
  obtain ⟨b, off, e, h1, h2, hc⟩ := h hn
  exact ⟨b, off, e, h1, by omega, fun i hi => (World.cell?_of_block (w := w) (a := ⟨b, off + i, none⟩) (hk b h1 h2)).trans (hc i hi)⟩
theorem Rl.rn (h : Rl w lo A n f) : Rn w w.heap.size A n f := fun hn => by
  obtain ⟨b, off, e, h1, h2, hc⟩ := h hn
  exact ⟨b, off, e, h2, hc⟩
theorem Rl.low (h : Rl w lo A n f) {l : Nat} (hl : l ≤ lo) : Rl w l A n f := fun hn => by
  obtain ⟨b, off, e, h1, h2, hc⟩ := h hn
  exact ⟨b, off, e, by omega, h2, hc⟩
theorem Rl.call (h : Rl w lo A n f) (hb : Below w.heap.size w w') : Rl w' lo A n f := h.keep hb.size fun k _ hk => hb.block k hk
theorem Rl.alloc (h : Rl w lo A n f) (o : Obj) : Rl (w.alloc o) lo A n f := h.keep (by simp) fun k _ hk => blk_alloc_lt _ _ _ hk
theorem Rl.drewN (h : Rl w lo A n f) (q : Nat) : Rl (w.drewN q) lo A n f := h
theorem Rl.grown (h : Rl w lo A n f) {r : Nat} (hr : r < lo) (hg : w.grownBy w' (some r)) : Rl w' lo A n f := h.keep hg.size fun k h1 h2 => hg.block k h2 (fun e => by injection e; omega)
theorem Rl.store (h : Rl w lo A n f) {a : Addr} (ha : a.block < lo) (v : Value) : Rl (w.setCell a v) lo A n f := h.keep (by simp [World.setCell]) fun k h1 _ => blk_setCell_other _ _ _ _ (by omega)
theorem Rl.of_ow (h : Ow w b A n f) (hb : lo ≤ b) : Rl w lo A n f := fun hn => by
  obtain ⟨off, e, h1, _, hc⟩ := h hn
  exact ⟨b, off, e, hb, h1, hc⟩
/-- One number less at the head. -/
theorem Rl.tail {off : Nat} (h : Rl w lo (some ⟨b, off, none⟩) (n + 1) f) : Rl w lo (some ⟨b, off + 1, none⟩) n (fun i => f (i + 1)) := fun hn => by
  obtain ⟨b', off', e, h1, h2, hc⟩ := h (by omega)
  simp only [Option.some.injEq, Addr.mk.injEq, and_true] at e
  obtain ⟨rfl, rfl⟩ := e
  exact ⟨b, off + 1, rfl, h1, h2, fun i hi => by have := hc (i + 1) (by omega); rwa [show off + (i + 1) = off + 1 + i by omega] at this⟩
end
/-- The same, apart from block g. -/
def Rx (w : World) (lo g : Nat) (A : Option Addr) (n : Nat) (f : Nat → Int) : Prop :=
  0 < n → ∃ b off, A = some ⟨b, off, none⟩ ∧ lo ≤ b ∧ b < w.heap.size ∧ b ≠ g ∧ ∀ i, i < n → w.cell? ⟨b, off + i, none⟩ = some (.int .i64 (f i))
section
variable {w w' : World} {lo g n b : Nat} {A : Option Addr} {f : Nat → Int}
theorem Rx.keep (h : Rx w lo g A n f) (hs : w.heap.size ≤ w'.heap.size) (hk : ∀ k, lo ≤ k → k < w.heap.size → k ≠ g → w'.heap[k]? = w.heap[k]?) : Rx w' lo g A n f := fun hn => by
  obtain ⟨b, off, e, h1, h2, h3, hc⟩ := h hn
  exact ⟨b, off, e, h1, by omega, h3, fun i hi => (World.cell?_of_block (w := w) (a := ⟨b, off + i, none⟩) (hk b h1 h2 h3)).trans (hc i hi)⟩
theorem Rx.rn (h : Rx w lo g A n f) : Rn w w.heap.size A n f := fun hn => by
  obtain ⟨b, off, e, h1, h2, h3, hc⟩ := h hn
  exact ⟨b, off, e, h2, hc⟩
theorem Rx.at_ (h : Rx w lo g A n f) {g' : Nat} (hg : w.heap.size ≤ g') : Rx w lo g' A n f := fun hn => by
  obtain ⟨b, off, e, h1, h2, h3, hc⟩ := h hn
  exact ⟨b, off, e, h1, h2, by omega, hc⟩
theorem Rx.of_rl {l : Nat} (h : Rl w l A n f) (hl : lo ≤ l) (hg : g < l) : Rx w lo g A n f := fun hn => by
  obtain ⟨b, off, e, h1, h2, hc⟩ := h hn
  exact ⟨b, off, e, by omega, h2, by omega, hc⟩
end
theorem Rd.gr {B R p r : Nat} {w w' : World} (h : Rd B w R p) (hg : w.grownBy w' (some r)) (hr : R < r) : Rd B w' R p :=
  h.of (hg.block R h.lt (fun e => by injection e; omega)) (fun k hk => hg.block k (by have := h.lt; have := h.base; omega) (fun e => by have := h.base; injection e; omega))
theorem gb_new {a b c : World} {row : Option Nat} {r : Nat} (h : a.grownBy b row) (k : b.grownBy c (some r)) (hr : a.heap.size ≤ r) : a.grownBy c row :=
  ⟨k.os.trans h.os, k.tape.trans h.tape, k.output.trans h.output, Nat.le_trans h.size k.size, fun i hi hne => (k.block i (Nat.lt_of_lt_of_le hi h.size) (fun e => by injection e; omega)).trans (h.block i hi hne)⟩
theorem gb_store {a b : World} {row : Option Nat} (h : a.grownBy b row) {q : Addr} (hq : a.heap.size ≤ q.block) (u : Value) : a.grownBy (b.setCell q u) row :=
  ⟨h.os, h.tape, h.output, by simpa [World.setCell] using h.size, fun i hi hne => (blk_setCell_other _ _ _ _ (by omega)).trans (h.block i hi hne)⟩
/-- A slice of paths that a draw has made: the row lies in block g, all else apart from it; all from block lo on. -/
def DPs (w : World) (T : TypeId) (lo g k c : Nat) (D : Nat → PD) : Prop :=
  ∃ xs : List Value, w.ownsRow lo T 2 (.slice (some ⟨g, 0, none⟩) k c) k xs ∧ ∀ i, i < k → ∃ a1 c1 a2 c2, xs[i * 2]? = some (.slice a1 (D i).m1 c1) ∧ xs[i * 2 + 1]? = some (.slice a2 (D i).m2 c2) ∧ Rx w lo g a1 (D i).m1 (D i).f1 ∧ Rx w lo g a2 (D i).m2 (D i).f2
section
variable {w w' : World} {T lo g k c : Nat} {D : Nat → PD}
theorem DPs.lt (h : DPs w T lo g k c D) : lo ≤ g ∧ g < w.heap.size := by
  obtain ⟨xs, ho, _⟩ := h
  exact ho.lt g rfl
theorem DPs.keep (h : DPs w T lo g k c D) (hs : w.heap.size ≤ w'.heap.size) (hk : ∀ b, lo ≤ b → b < w.heap.size → w'.heap[b]? = w.heap[b]?) : DPs w' T lo g k c D := by
  have hlt := h.lt
  obtain ⟨xs, ⟨h0, ho⟩, h1⟩ := h
  refine ⟨xs, ⟨h0, ?_⟩, fun i hi => ?_⟩
  · rcases ho with hn | ⟨g', cap, cur, hv, hb1, hgg, rest⟩
    · exact .inl hn
    · simp only [Value.slice.injEq, Option.some.injEq, Addr.mk.injEq, and_true, true_and] at hv
      obtain ⟨rfl, rfl⟩ := hv
      exact .inr ⟨g, c, cur, rfl, hb1, (hk g hlt.1 hlt.2).trans hgg, rest⟩
  · obtain ⟨a1, c1, a2, c2, e1, e2, r1, r2⟩ := h1 i hi
    exact ⟨a1, c1, a2, c2, e1, e2, r1.keep hs (fun k a b _ => hk k a b), r2.keep hs (fun k a b _ => hk k a b)⟩
theorem DPs.call (h : DPs w T lo g k c D) (hb : Below w.heap.size w w') : DPs w' T lo g k c D := h.keep hb.size fun k _ hk => hb.block k hk
theorem DPs.alloc (h : DPs w T lo g k c D) (o : Obj) : DPs (w.alloc o) T lo g k c D := h.keep (by simp) fun k _ hk => blk_alloc_lt _ _ _ hk
theorem DPs.drewN (h : DPs w T lo g k c D) (q : Nat) : DPs (w.drewN q) T lo g k c D := h
theorem DPs.grown (h : DPs w T lo g k c D) {r : Nat} (hr : r < lo) (hg : w.grownBy w' (some r)) : DPs w' T lo g k c D := h.keep hg.size fun k h1 h2 => hg.block k h2 (fun e => by injection e; omega)
theorem DPs.store (h : DPs w T lo g k c D) {a : Addr} (ha : a.block < lo) (v : Value) : DPs (w.setCell a v) T lo g k c D := h.keep (by simp [World.setCell]) fun k h1 _ => blk_setCell_other _ _ _ _ (by omega)
theorem DPs.new0 (w : World) (T lo : Nat) (D : Nat → PD) (hlo : lo ≤ w.heap.size) : DPs (w.alloc (.cells #[] T)) T lo w.heap.size 0 0 D :=
  ⟨[], World.ownsRow_made w #[] 0 hlo (by unfold maxLen; omega) (by simp), fun i hi => absurd hi (by omega)⟩
theorem DPs.rn (h : DPs w T lo g k c D) : PsRn w w.heap.size (some ⟨g, 0, none⟩) k D := fun hn => by
  have hlt := h.lt
  obtain ⟨xs, ho, h1⟩ := h
  refine ⟨g, 0, rfl, hlt.2, fun i hi => ?_⟩
  obtain ⟨a1, c1, a2, c2, e1, e2, r1, r2⟩ := h1 i hi
  have z1 := ho.cells (g := g) rfl _ _ e1
  have z2 := ho.cells (g := g) rfl _ _ e2
  rw [add_at] at z1 z2
  exact ⟨a1, c1, a2, c2, z1, by rwa [Nat.add_assoc], r1.rn, r2.rn⟩
/-- What PathsAdd has made. -/
theorem DPs.of_gr {L : Nat} (h : PsGr w T L w.heap.size g k c D) (hl : lo ≤ L) : DPs w T lo g k c D := by
  obtain ⟨G, xs, h0, h1⟩ := h
  refine ⟨xs, owns_base h1 hl, fun i hi => ?_⟩
  obtain ⟨a1, c1, a2, c2, e1, e2, o1, o2⟩ := h0.at_ i hi
  have q1 := h0.rng (i * 2) (by omega)
  have q2 := h0.rng (i * 2 + 1) (by omega)
  refine ⟨a1, c1, a2, c2, e1, e2, fun hn => ?_, fun hn => ?_⟩
  · obtain ⟨off, e, h2, _, hc⟩ := o1 hn
    exact ⟨_, off, e, by omega, h2, q1.2.2, hc⟩
  · obtain ⟨off, e, h2, _, hc⟩ := o2 hn
    exact ⟨_, off, e, by omega, h2, q2.2.2, hc⟩
/-- The same paths in a new row. -/
theorem DPs.copy {g' c' : Nat} {xs : List Value} (h1 : ∀ i, i < k → ∃ a1 c1 a2 c2, xs[i * 2]? = some (.slice a1 (D i).m1 c1) ∧ xs[i * 2 + 1]? = some (.slice a2 (D i).m2 c2) ∧ Rx w lo g a1 (D i).m1 (D i).f1 ∧ Rx w lo g a2 (D i).m2 (D i).f2)
    (ho : w'.ownsRow lo T 2 (.slice (some ⟨g', 0, none⟩) k c') k xs) (hg : w.heap.size ≤ g') (hb : Below w.heap.size w w') : DPs w' T lo g' k c' D :=
  ⟨xs, ho, fun i hi => by
    obtain ⟨a1, c1, a2, c2, e1, e2, r1, r2⟩ := h1 i hi
    exact ⟨a1, c1, a2, c2, e1, e2, (r1.at_ hg).keep hb.size (fun k _ hk _ => hb.block k hk), (r2.at_ hg).keep hb.size (fun k _ hk _ => hb.block k hk)⟩⟩
/-- One more path is in. -/
theorem DPs.put {g' c' n1 n2 c1 c2 : Nat} {a1 a2 : Option Addr} {f1 f2 : Nat → Int} {xs : List Value} (hx : xs.length = k * 2) (h1 : ∀ i, i < k → ∃ a1 c1 a2 c2, xs[i * 2]? = some (.slice a1 (D i).m1 c1) ∧ xs[i * 2 + 1]? = some (.slice a2 (D i).m2 c2) ∧ Rx w lo g a1 (D i).m1 (D i).f1 ∧ Rx w lo g a2 (D i).m2 (D i).f2)
    (r1 : Rx w lo g a1 n1 f1) (r2 : Rx w lo g a2 n2 f2) (ho : w'.ownsRow lo T 2 (.slice (some ⟨g', 0, none⟩) (k + 1) c') (k + 1) (xs ++ [.slice a1 n1 c1, .slice a2 n2 c2])) (hg : g' = g ∨ w.heap.size ≤ g') (hgr : w.grownBy w' (some g)) :
    DPs w' T lo g' (k + 1) c' (addD D k ⟨n1, f1, n2, f2⟩) := by
  have key : ∀ {A : Option Addr} {n : Nat} {f : Nat → Int}, Rx w lo g A n f → Rx w' lo g' A n f := fun r => by
    have r' := r.keep hgr.size (fun k _ hk hne => hgr.block k hk (fun e => hne (by injection e)))
    intro hn
    obtain ⟨b, off, e, h2, h3, h4, hc⟩ := r' hn
    obtain ⟨b0, off0, e0, h20, h30, h40, _⟩ := r hn
    rw [e] at e0
    simp only [Option.some.injEq, Addr.mk.injEq, and_true] at e0
    obtain ⟨rfl, rfl⟩ := e0
    exact ⟨b, off, e, h2, h3, by omega, hc⟩
  refine ⟨_, ho, fun i hi => ?_⟩
  by_cases e : i = k
  · subst e
    rw [addD_at]
    refine ⟨a1, c1, a2, c2, ?_, ?_, key r1, key r2⟩
    · rw [List.getElem?_append_right (by omega), hx]; simp
    · rw [List.getElem?_append_right (by omega), hx]
      have e : i * 2 + 1 - i * 2 = 1 := by omega
      rw [e]; rfl
  · rw [addD_lt (by omega)]
    obtain ⟨d1, e1, d2, e2, q1, q2, q3, q4⟩ := h1 i (by omega)
    exact ⟨d1, e1, d2, e2, by rw [List.getElem?_append_left (by omega), q1], by rw [List.getElem?_append_left (by omega), q2], key q3, key q4⟩
end
/-- What a draw of a path leaves. -/
def PathDr (B : Nat) (w : World) (R q0 : Nat) (e : Ending) (w' : World) : Prop :=
  ∃ (a1 : Option Addr) (n1 c1 : Nat) (f1 : Nat → Int) (a2 : Option Addr) (n2 c2 : Nat) (f2 : Nat → Int) (q : Nat), e = .returned (.agg #[.slice a1 n1 c1, .slice a2 n2 c2]) ∧ n1 ≤ 5 ∧ n2 ≤ 5 ∧ Rl w' w.heap.size a1 n1 f1 ∧ Rl w' w.heap.size a2 n2 f2 ∧ Rd B w' R q ∧ q ≤ q0 ∧ w.grownBy w' (some R)
/-- Two rows of numbers that grow, in a box of two cells. -/
def PaM (wr : World) (T X Bp : Nat) (j1 : Nat) (l1 : List Int) (g1 k1 : Nat) (j2 : Nat) (l2 : List Int) (g2 k2 : Nat) : Prop :=
  Bx wr X [.slice none 0 0, .slice none 0 0] ∧ Bx wr Bp [.slice (some ⟨g1, 0, none⟩) j1 k1, .slice (some ⟨g2, 0, none⟩) j2 k2] ∧ wr.ownsRow (X + 1) T 1 (.slice (some ⟨g1, 0, none⟩) j1 k1) j1 (ints l1) ∧ wr.ownsRow (X + 1) T 1 (.slice (some ⟨g2, 0, none⟩) j2 k2) j2 (ints l2) ∧
    (g1 ≠ g2 ∧ g1 ≠ Bp ∧ g2 ≠ Bp) ∧ X < Bp
section
variable {w w' : World} {T X Bp g1 k1 g2 k2 R j1 j2 : Nat} {l1 l2 : List Int}
theorem PaM.grown (h : PaM w T X Bp j1 l1 g1 k1 j2 l2 g2 k2) (hg : w.grownBy w' (some R)) (hR : R < X) : PaM w' T X Bp j1 l1 g1 k1 j2 l2 g2 k2 := by
  obtain ⟨h1, h2, h3, h4, h5, h6⟩ := h
  have q1 := (owns_cap h3).2.2
  have q2 := (owns_cap h4).2.2
  exact ⟨h1.grown hg (by simp; omega), h2.grown hg (by simp; omega), owns_grown h3 hg (by simp [Value.ownBlock]; omega), owns_grown h4 hg (by simp [Value.ownBlock]; omega), h5, h6⟩
theorem PaM.alloc (h : PaM w T X Bp j1 l1 g1 k1 j2 l2 g2 k2) (o : Obj) : PaM (w.alloc o) T X Bp j1 l1 g1 k1 j2 l2 g2 k2 := by
  obtain ⟨h1, h2, h3, h4, h5, h6⟩ := h
  exact ⟨h1.alloc o, h2.alloc o, h3.alloc o, h4.alloc o, h5, h6⟩
theorem PaM.put1 (h : PaM w T X Bp j1 l1 g1 k1 j2 l2 g2 k2) {v : Int} {o : Obj} {g3 k3 : Nat} (hg : (w.alloc o).grownBy w' (some g1)) (ho : w'.ownsRow (X + 1) T 1 (.slice (some ⟨g3, 0, none⟩) (j1 + 1) k3) (j1 + 1) (ints l1 ++ [.int .i64 v])) (hat : g3 = g1 ∨ g3 = w.heap.size + 1) :
    PaM (w'.setCell ⟨Bp, 0, none⟩ (.slice (some ⟨g3, 0, none⟩) (j1 + 1) k3)) T X Bp (j1 + 1) (l1 ++ [v]) g3 k3 j2 l2 g2 k2 := by
  obtain ⟨h1, h2, h3, h4, h5, h6⟩ := h.alloc o
  have q1 := (owns_cap h3).2.2
  have q2 := (owns_cap h4).2.2
  have q3 := (owns_cap ho).2.2
  have lt2 := (h4.lt g2 rfl).2
  have ltB := h2.lt
  obtain ⟨p1, p2, p3, p4, p5, p6⟩ := h
  have lt3 := p2.lt
  have lt4 := (p4.lt g2 rfl).2
  have h1' := h1.grown hg (by simp; omega)
  have h2' := h2.grown hg (by simp; omega)
  have h4' := owns_grown h4 hg (by simp [Value.ownBlock]; omega)
  refine ⟨h1'.other (by simp; omega) _, ?_, ?_, owns_store h4' (by simp [Value.ownBlock]; omega) _, by omega, h6⟩
  · have := h2'.set 0 (.slice (some ⟨g3, 0, none⟩) (j1 + 1) k3)
    simpa using this
  · rw [ints_snoc]
    exact owns_store ho (by simp [Value.ownBlock]; omega) _
theorem PaM.put2 (h : PaM w T X Bp j1 l1 g1 k1 j2 l2 g2 k2) {v : Int} {o : Obj} {g3 k3 : Nat} (hg : (w.alloc o).grownBy w' (some g2)) (ho : w'.ownsRow (X + 1) T 1 (.slice (some ⟨g3, 0, none⟩) (j2 + 1) k3) (j2 + 1) (ints l2 ++ [.int .i64 v])) (hat : g3 = g2 ∨ g3 = w.heap.size + 1) :
    PaM (w'.setCell ⟨Bp, 1, none⟩ (.slice (some ⟨g3, 0, none⟩) (j2 + 1) k3)) T X Bp j1 l1 g1 k1 (j2 + 1) (l2 ++ [v]) g3 k3 := by
  obtain ⟨h1, h2, h3, h4, h5, h6⟩ := h.alloc o
  have q1 := (owns_cap h3).2.2
  have q2 := (owns_cap h4).2.2
  have q3 := (owns_cap ho).2.2
  obtain ⟨p1, p2, p3, p4, p5, p6⟩ := h
  have lt3 := p2.lt
  have lt4 := (p3.lt g1 rfl).2
  have h1' := h1.grown hg (by simp; omega)
  have h2' := h2.grown hg (by simp; omega)
  have h3' := owns_grown h3 hg (by simp [Value.ownBlock]; omega)
  refine ⟨h1'.other (by simp; omega) _, ?_, owns_store h3' (by simp [Value.ownBlock]; omega) _, ?_, by omega, h6⟩
  · have := h2'.set 1 (.slice (some ⟨g3, 0, none⟩) (j2 + 1) k3)
    simpa using this
  · rw [ints_snoc]
    exact owns_store ho (by simp [Value.ownBlock]; omega) _
theorem PaM.cells (h : PaM w T X Bp j1 l1 g1 k1 j2 l2 g2 k2) : (w.cell? ⟨Bp, 0, none⟩ = some (.slice (some ⟨g1, 0, none⟩) j1 k1) ∧ w.cell? ⟨Bp, 1, none⟩ = some (.slice (some ⟨g2, 0, none⟩) j2 k2)) ∧ (w.frozen? ⟨Bp, 0, none⟩ = false ∧ w.frozen? ⟨Bp, 1, none⟩ = false) ∧ Bp < w.heap.size :=
  ⟨⟨h.2.1.cell (i := 0) (by simp), h.2.1.cell (i := 1) (by simp)⟩, ⟨h.2.1.frz 0, h.2.1.frz 1⟩, h.2.1.lt⟩
theorem PaM.ow (h : PaM w T X Bp j1 l1 g1 k1 j2 l2 g2 k2) : Ow w g1 (some ⟨g1, 0, none⟩) j1 (fun i => l1.getD i 0) ∧ Ow w g2 (some ⟨g2, 0, none⟩) j2 (fun i => l2.getD i 0) ∧ X < g1 ∧ X < g2 := by
  obtain ⟨h1, h2, h3, h4, h5, h6⟩ := h
  have q1 := (owns_cap h3).2.2
  have q2 := (owns_cap h4).2.2
  have z1 := h3.1
  have z2 := h4.1
  rw [ints_len] at z1 z2
  exact ⟨Ow.of_owns h3 (fun i hi => ints_at (by omega)), Ow.of_owns h4 (fun i hi => ints_at (by omega)), by omega, by omega⟩
end
end Go.Proofs.Ytjppkcfbhhjniaa
