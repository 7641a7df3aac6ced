/-
  Words for memory, beside the chapter on paths: a slice of numbers that is read; one that the call itself has made; how both stand behind new blocks, draws, stores, calls.
-/
import Derived.Test.YtjppkcfbhhjniaaDrawP
import Derived.Deep.OwnRows
namespace Go.Proofs.Ytjppkcfbhhjniaa
open Go.RowKit Go.Deep

/-- The slice (A, n) reads as the numbers f; its cells lie below block B. -/
def Rn (w : World) (B : Nat) (A : Option Addr) (n : Nat) (f : Nat → Int) : Prop :=
  0 < n → ∃ b off, A = some ⟨b, off, none⟩ ∧ b < B ∧ ∀ i, i < n → w.cell? ⟨b, off + i, none⟩ = some (.int .i64 (f i))
/-- The slice (A, n) reads as the numbers f; its cells lie in block b and may be written. -/
def Ow (w : World) (b : Nat) (A : Option Addr) (n : Nat) (f : Nat → Int) : Prop :=
  0 < n → ∃ off, A = some ⟨b, off, none⟩ ∧ b < w.heap.size ∧ (∀ i, w.frozen? ⟨b, i, none⟩ = false) ∧ ∀ i, i < n → w.cell? ⟨b, off + i, none⟩ = some (.int .i64 (f i))
section
variable {B b n : Nat} {w w' : World} {A : Option Addr} {f g : Nat → Int}
theorem Rn.keep (h : Rn w B A n f) (hk : ∀ k, k < B → w'.heap[k]? = w.heap[k]?) : Rn w' B A n f := fun hn => by
  obtain ⟨b, off, e, hb, hc⟩ := h hn
  exact ⟨b, off, e, hb, fun i hi => (World.cell?_of_block (a := ⟨b, off + i, none⟩) (hk b hb)).trans (hc i hi)⟩
theorem Rn.up (h : Rn w B A n f) {C : Nat} (hC : B ≤ C) : Rn w C A n f := fun hn => by
  obtain ⟨b, off, e, hb, hc⟩ := h hn
  exact ⟨b, off, e, by omega, hc⟩
theorem Rn.below (h : Rn w B A n f) (hb : Below B w w') : Rn w' B A n f := h.keep hb.block
theorem Rn.call (h : Rn w B A n f) (hB : B ≤ w.heap.size) (hb : Below w.heap.size w w') : Rn w' B A n f := h.below (hb.mono hB)
theorem Rn.alloc (h : Rn w B A n f) (hB : B ≤ w.heap.size) (o : Obj) : Rn (w.alloc o) B A n f := h.keep fun _ hk => blk_alloc_lt _ _ _ (by omega)
theorem Rn.drew (h : Rn w B A n f) : Rn w.drew B A n f := h
theorem Rn.drewN (h : Rn w B A n f) (q : Nat) : Rn (w.drewN q) B A n f := h
theorem Rn.store (h : Rn w B A n f) {a : Addr} (ha : B ≤ a.block) (v : Value) : Rn (w.setCell a v) B A n f := h.keep fun _ hk => blk_setCell_other _ _ _ _ (by omega)
theorem Rn.grown (h : Rn w B A n f) (hB : B ≤ w.heap.size) {r : Nat} (hr : B ≤ r) (hg : w.grownBy w' (some r)) : Rn w' B A n f := h.keep fun k hk => hg.block k (by omega) (fun e => by injection e; omega)
theorem Rn.congr (h : Rn w B A n f) (e : ∀ i, i < n → f i = g i) : Rn w B A n g := fun hn => by
  obtain ⟨b, off, e1, hb, hc⟩ := h hn
  exact ⟨b, off, e1, hb, fun i hi => by rw [hc i hi, e i hi]⟩
theorem Rn.less (h : Rn w B A n f) {m : Nat} (hm : m ≤ n) : Rn w B A m f := fun hn => by
  obtain ⟨b, off, e1, hb, hc⟩ := h (by omega)
  exact ⟨b, off, e1, hb, fun i hi => hc i (by omega)⟩
theorem Rn.top (h : Rn w w.heap.size A n f) (o : Obj) : Rn (w.alloc o) (w.alloc o).heap.size A n f := (h.alloc (Nat.le_refl _) _).up (by simp)
theorem Rn.top2 (h : Rn w w.heap.size A n f) (o p : Obj) : Rn ((w.alloc o).alloc p) ((w.alloc o).alloc p).heap.size A n f := (h.top o).top p
theorem Rn.topd (h : Rn w w.heap.size A n f) : Rn w.drew w.drew.heap.size A n f := h
theorem Rn.topq (h : Rn w w.heap.size A n f) (q : Nat) : Rn (w.drewN q) (w.drewN q).heap.size A n f := h
theorem Rn.topb (h : Rn w w.heap.size A n f) (hb : Below w.heap.size w w') : Rn w' w'.heap.size A n f := (h.below hb).up hb.size
theorem Rn.nil (w : World) (B : Nat) (A : Option Addr) (f : Nat → Int) : Rn w B A 0 f := fun h => absurd h (by omega)
theorem Ow.nil (w : World) (B : Nat) (A : Option Addr) (f : Nat → Int) : Ow w B A 0 f := fun h => absurd h (by omega)
theorem Ow.rn (h : Ow w b A n f) (hb : b < B) : Rn w B A n f := fun hn => by
  obtain ⟨off, e, _, _, hc⟩ := h hn
  exact ⟨b, off, e, hb, hc⟩
theorem Ow.of (h : Ow w b A n f) (e : w'.heap[b]? = w.heap[b]?) (hs : w.heap.size ≤ w'.heap.size) : Ow w' b A n f := fun hn => by
  obtain ⟨off, e1, hb, hf, hc⟩ := h hn
  exact ⟨off, e1, by omega, fun i => (World.frozen?_of_block (w := w) (a := ⟨b, i, none⟩) e).trans (hf i), fun i hi => (World.cell?_of_block (w := w) (a := ⟨b, off + i, none⟩) e).trans (hc i hi)⟩
theorem Ow.alloc (h : Ow w b A n f) (o : Obj) : Ow (w.alloc o) b A n f := fun hn => by
  obtain ⟨_, _, hb, _⟩ := h hn
  exact h.of (blk_alloc_lt _ _ _ hb) (by simp) hn
theorem Ow.drew (h : Ow w b A n f) : Ow w.drew b A n f := h
theorem Ow.drewN (h : Ow w b A n f) (q : Nat) : Ow (w.drewN q) b A n f := h
theorem Ow.call (h : Ow w b A n f) (hb : Below w.heap.size w w') : Ow w' b A n f := fun hn => by
  obtain ⟨_, _, hb1, _⟩ := h hn
  exact h.of (hb.block b hb1) hb.size hn
theorem Ow.store (h : Ow w b A n f) {a : Addr} (ha : b ≠ a.block) (v : Value) : Ow (w.setCell a v) b A n f := h.of (blk_setCell_other _ _ _ _ ha) (by simp [World.setCell])
theorem Ow.grown (h : Ow w b A n f) {r : Nat} (hr : b ≠ r) (hg : w.grownBy w' (some r)) : Ow w' b A n f := fun hn => by
  obtain ⟨_, _, hb1, _⟩ := h hn
  exact h.of (hg.block b hb1 (fun e => by injection e; omega)) hg.size hn
theorem Ow.congr (h : Ow w b A n f) (e : ∀ i, i < n → f i = g i) : Ow w b A n g := fun hn => by
  obtain ⟨off, e1, hb, hf, hc⟩ := h hn
  exact ⟨off, e1, hb, hf, fun i hi => by rw [hc i hi, e i hi]⟩
theorem Ow.set {off k : Nat} {v : Int} (h : Ow w b (some ⟨b, off, none⟩) n f) : Ow (w.setCell ⟨b, off + k, none⟩ (.int .i64 v)) b (some ⟨b, off, none⟩) n (fun i => if i = k then v else f i) := fun hn => by
  obtain ⟨off', e1, hb, hf, hc⟩ := h hn
  simp only [Option.some.injEq, Addr.mk.injEq, true_and, and_true] at e1
  subst e1
  refine ⟨off, rfl, by simpa [World.setCell] using hb, fun i => by simpa using hf i, fun i hi => ?_⟩
  by_cases e : i = k
  · subst e
    show _ = some (Value.int .i64 (if i = i then v else f i))
    rw [if_pos rfl]
    exact World.cell?_setCell_same _ _ _ (hc i hi)
  · show _ = some (Value.int .i64 (if i = k then v else f i))
    rw [if_neg e, World.cell?_setCell_other _ _ _ _ (fun x => e (by simp only [Addr.mk.injEq, true_and, and_true] at x; omega))]
    exact hc i hi
theorem Ow.of_row {T m : Nat} (h : w.rowIs b T m (fun i => .int .i64 (f i))) (hn : n ≤ m) : Ow w b (some ⟨b, 0, none⟩) n f := fun h0 =>
  ⟨0, rfl, h.lt, fun i => h.frozen i, fun i hi => by rw [Nat.zero_add]; exact h.cell (by omega)⟩
theorem undrew (h : Below w.drew.heap.size w.drew w') : Below w.heap.size w w' := ⟨h.os, h.tape, h.output, h.size, h.block⟩
theorem undrewN {q : Nat} (h : Below (w.drewN q).heap.size (w.drewN q) w') : Below w.heap.size w w' := ⟨h.os, h.tape, h.output, h.size, h.block⟩
/-- Only blocks from lo on and below hi have turned. -/
structure Mid (lo hi : Nat) (w w' : World) : Prop where
  os : w'.os = w.os
  tape : w'.tape = w.tape
  output : w'.output = w.output
  size : w.heap.size ≤ w'.heap.size
  block : ∀ k, k < w.heap.size → (k < lo ∨ hi ≤ k) → w'.heap[k]? = w.heap[k]?
theorem Mid.refl (lo hi : Nat) (w : World) : Mid lo hi w w := ⟨rfl, rfl, rfl, Nat.le_refl _, fun _ _ _ => rfl⟩
theorem Mid.trans {lo hi : Nat} {a b c : World} (h : Mid lo hi a b) (k : Mid lo hi b c) : Mid lo hi a c :=
  ⟨k.os.trans h.os, k.tape.trans h.tape, k.output.trans h.output, Nat.le_trans h.size k.size, fun i hi hh => (k.block i (Nat.lt_of_lt_of_le hi h.size) hh).trans (h.block i hi hh)⟩
theorem Mid.below {lo hi B : Nat} (h : Mid lo hi w w') (hB : B ≤ lo) (hw : B ≤ w.heap.size) : Below B w w' := ⟨h.os, h.tape, h.output, h.size, fun k hk => h.block k (by omega) (.inl (by omega))⟩
theorem Mid.of_below {lo hi : Nat} (h : Below w.heap.size w w') : Mid lo hi w w' := ⟨h.os, h.tape, h.output, h.size, fun k hk _ => h.block k hk⟩
theorem Mid.of_grown {lo hi r : Nat} (h : w.grownBy w' (some r)) (h1 : lo ≤ r) (h2 : r < hi) : Mid lo hi w w' := ⟨h.os, h.tape, h.output, h.size, fun k hk hh => h.block k hk (fun e => by injection e; omega)⟩
theorem Ow.mid {lo hi : Nat} (h : Ow w b A n f) (hm : Mid lo hi w w') (hb : b < lo ∨ hi ≤ b) : Ow w' b A n f := fun hn => by
  obtain ⟨_, _, hb1, _⟩ := h hn
  exact h.of (hm.block b hb1 hb) hm.size hn
theorem Rn.mid {lo hi : Nat} (h : Rn w B A n f) (hB : B ≤ w.heap.size) (hm : Mid lo hi w w') (hb : B ≤ lo) : Rn w' B A n f := h.keep fun k hk => hm.block k (by omega) (.inl (by omega))
/-- A path that a call has made: its two slices lie in two blocks of their own, from lo on and below hi. -/
def OwP (w : World) (lo hi : Nat) (a1 : Option Addr) (n1 : Nat) (f1 : Nat → Int) (a2 : Option Addr) (n2 : Nat) (f2 : Nat → Int) : Prop :=
  ∃ b1 b2, (0 < n1 → lo ≤ b1 ∧ b1 < hi) ∧ (0 < n2 → lo ≤ b2 ∧ b2 < hi) ∧ b1 ≠ b2 ∧ Ow w b1 a1 n1 f1 ∧ Ow w b2 a2 n2 f2
section
variable {lo hi n1 n2 : Nat} {a1 a2 : Option Addr} {f1 f2 : Nat → Int}
theorem OwP.call (h : OwP w lo hi a1 n1 f1 a2 n2 f2) (hb : Below w.heap.size w w') : OwP w' lo hi a1 n1 f1 a2 n2 f2 := by
  obtain ⟨b1, b2, h1, h2, hne, o1, o2⟩ := h
  exact ⟨b1, b2, h1, h2, hne, o1.call hb, o2.call hb⟩
theorem OwP.alloc (h : OwP w lo hi a1 n1 f1 a2 n2 f2) (o : Obj) : OwP (w.alloc o) lo hi a1 n1 f1 a2 n2 f2 := by
  obtain ⟨b1, b2, h1, h2, hne, o1, o2⟩ := h
  exact ⟨b1, b2, h1, h2, hne, o1.alloc _, o2.alloc _⟩
theorem OwP.drew (h : OwP w lo hi a1 n1 f1 a2 n2 f2) : OwP w.drew lo hi a1 n1 f1 a2 n2 f2 := h
theorem OwP.drewN (h : OwP w lo hi a1 n1 f1 a2 n2 f2) (q : Nat) : OwP (w.drewN q) lo hi a1 n1 f1 a2 n2 f2 := h
theorem OwP.mid (h : OwP w lo hi a1 n1 f1 a2 n2 f2) {l2 h2 : Nat} (hm : Mid l2 h2 w w') (hh : hi ≤ l2 ∨ h2 ≤ lo) : OwP w' lo hi a1 n1 f1 a2 n2 f2 := by
  obtain ⟨b1, b2, h1, h2, hne, o1, o2⟩ := h
  refine ⟨b1, b2, h1, h2, hne, fun hn => ?_, fun hn => ?_⟩
  · have := h1 hn; exact o1.mid hm (by omega) hn
  · have := h2 hn; exact o2.mid hm (by omega) hn
theorem OwP.rn1 (h : OwP w lo hi a1 n1 f1 a2 n2 f2) : Rn w w.heap.size a1 n1 f1 := by
  obtain ⟨b1, b2, h1, h2, hne, o1, o2⟩ := h
  exact fun hn => by obtain ⟨_, _, hb, _⟩ := o1 hn; exact o1.rn hb hn
theorem OwP.rn2 (h : OwP w lo hi a1 n1 f1 a2 n2 f2) : Rn w w.heap.size a2 n2 f2 := by
  obtain ⟨b1, b2, h1, h2, hne, o1, o2⟩ := h
  exact fun hn => by obtain ⟨_, _, hb, _⟩ := o2 hn; exact o2.rn hb hn
theorem OwP.up (h : OwP w lo hi a1 n1 f1 a2 n2 f2) {l h' : Nat} (hl : l ≤ lo) (hh : hi ≤ h') : OwP w l h' a1 n1 f1 a2 n2 f2 := by
  obtain ⟨b1, b2, h1, h2, hne, o1, o2⟩ := h
  exact ⟨b1, b2, fun x => by have := h1 x; omega, fun x => by have := h2 x; omega, hne, o1, o2⟩
theorem OwP.nil (w : World) (lo hi : Nat) (a1 a2 : Option Addr) (f1 f2 : Nat → Int) : OwP w lo hi a1 0 f1 a2 0 f2 := ⟨0, 1, fun h => absurd h (by omega), fun h => absurd h (by omega), by omega, Ow.nil _ _ _ _, Ow.nil _ _ _ _⟩
end
end
end Go.Proofs.Ytjppkcfbhhjniaa
