/-
  Words for memory: a block known whole; how it stands behind new blocks, draws, stores, calls.
-/
import Derived.WalkKit
import Derived.Below
import Derived.OneCell
import Derived.Deep.Heap
import Derived.Handy
namespace Go.Proofs.Ytejggpejmooegaa
open Go.RowKit Go.Deep

/-- Block B holds these cells; none is frozen. -/
def Bx (w : World) (B : Nat) (l : List Value) : Prop := ∃ T, w.heap[B]? = some (.cells l.toArray T (0, 0))
section
variable {w w' : World} {B N : Nat} {l : List Value}
theorem Bx.lt (h : Bx w B l) : B < w.heap.size := by obtain ⟨T, h⟩ := h; exact lt_of_block h
theorem Bx.cell (h : Bx w B l) {i : Nat} (hi : i < l.length) : w.cell? ⟨B, i, none⟩ = some l[i] := by
  obtain ⟨T, h⟩ := h
  simp [World.cell?, h, hi]
theorem Bx.frz (h : Bx w B l) (i : Nat) : w.frozen? ⟨B, i, none⟩ = false := by
  obtain ⟨T, h⟩ := h
  simp [World.frozen?, h]
theorem Bx.of (h : Bx w B l) (e : w'.heap[B]? = w.heap[B]?) : Bx w' B l := by
  obtain ⟨T, h⟩ := h
  exact ⟨T, e.trans h⟩
theorem Bx.alloc (h : Bx w B l) (o : Obj) : Bx (w.alloc o) B l := h.of (blk_alloc_lt _ _ _ h.lt)
theorem Bx.drew (h : Bx w B l) : Bx w.drew B l := h
theorem Bx.below (h : Bx w B l) (hb : Below N w w') (hB : B < N) : Bx w' B l := h.of (hb.block B hB)
theorem Bx.call (h : Bx w B l) (hb : Below w.heap.size w w') : Bx w' B l := h.below hb h.lt
theorem Bx.other (h : Bx w B l) {a : Addr} (ha : B ≠ a.block) (v : Value) : Bx (w.setCell a v) B l := h.of (blk_setCell_other _ _ _ _ ha)
theorem Bx.set (h : Bx w B l) (i : Nat) (v : Value) : Bx (w.setCell ⟨B, i, none⟩ v) B (l.set i v) := by
  have hlt := h.lt
  obtain ⟨T, h⟩ := h
  refine ⟨T, ?_⟩
  have h' : w.heap[B] = .cells l.toArray T (0, 0) := by simpa [Array.getElem?_eq_getElem hlt] using h
  show (w.heap.modify B _)[B]? = _
  rw [Array.getElem?_eq_getElem (by simpa using hlt), Array.getElem_modify_self, h']
  simp
theorem Bx.new (w : World) (l : List Value) (T : TypeId) : Bx (w.alloc (.cells l.toArray T)) w.heap.size l := ⟨T, blk_alloc_new _ _⟩
/-- Three cells. -/
theorem Bx.three {x y z : Value} (h : Bx w B [x, y, z]) : (w.cell? ⟨B, 0, none⟩ = some x ∧ w.cell? ⟨B, 1, none⟩ = some y ∧ w.cell? ⟨B, 2, none⟩ = some z) ∧ (w.frozen? ⟨B, 0, none⟩ = false ∧ w.frozen? ⟨B, 1, none⟩ = false ∧ w.frozen? ⟨B, 2, none⟩ = false) :=
  ⟨⟨h.cell (i := 0) (by simp), h.cell (i := 1) (by simp), h.cell (i := 2) (by simp)⟩, h.frz 0, h.frz 1, h.frz 2⟩
theorem Bx.set3 {x y z x' y' z' : Value} (h : Bx w B [x, y, z]) : Bx (((w.setCell ⟨B, 0, none⟩ x').setCell ⟨B, 1, none⟩ y').setCell ⟨B, 2, none⟩ z') B [x', y', z'] :=
  ((h.set 0 x').set 1 y').set 2 z'
theorem Bx.other3 (h : Bx w B l) {C : Nat} (hC : B ≠ C) (x y z : Value) : Bx (((w.setCell ⟨C, 0, none⟩ x).setCell ⟨C, 1, none⟩ y).setCell ⟨C, 2, none⟩ z) B l :=
  ((h.other (a := ⟨C, 0, none⟩) hC x).other (a := ⟨C, 1, none⟩) hC y).other (a := ⟨C, 2, none⟩) hC z
end
end Go.Proofs.Ytejggpejmooegaa
