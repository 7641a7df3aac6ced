/-
  The invariant of the region in which the draw of a book adds one list more.
-/
import Derived.Test.YtanfhgliilkhjaaRegI
namespace Go.Proofs.Ytanfhgliilkhjaa
open Go.RowKit Go.Deep
set_option linter.unusedVariables false

/-- Blocks from lo on, apart from g, stand as they were. -/
def GB (lo g : Nat) (w w' : World) : Prop := w.heap.size ≤ w'.heap.size ∧ ∀ b, lo ≤ b → b < w.heap.size → b ≠ g → w'.heap[b]? = w.heap[b]?
/-- A value that is a short list which can be read. -/
def SL (w : World) (lo g : Nat) (v : Value) : Prop := ∃ A n c f, v = .slice A n c ∧ (n ≤ 6 ∧ n ≤ c) ∧ Rx w lo g A n f
/-- A cell that holds one. -/
def SC (w : World) (lo g Z t : Nat) : Prop := (lo ≤ Z ∧ Z < w.heap.size ∧ Z ≠ g) ∧ ∃ v, w.cell? ⟨Z, t, none⟩ = some v ∧ SL w lo g v
section
variable {lo g : Nat} {w w' : World} {v : Value}
theorem GB.refl (lo g : Nat) (w : World) : GB lo g w w := ⟨Nat.le_refl _, fun _ _ _ _ => rfl⟩
theorem GB.alloc (w : World) (o : Obj) : GB lo g w (w.alloc o) := ⟨by simp, fun b _ hb _ => blk_alloc_lt _ _ _ hb⟩
theorem GB.grown {r : Nat} (hg : w.grownBy w' (some r)) (hr : r < lo ∨ r = g) : GB lo g w w' := ⟨hg.size, fun b h1 h2 h3 => hg.block b h2 (fun e => by injection e; omega)⟩
theorem SL.keep (h : SL w lo g v) (hG : GB lo g w w') : SL w' lo g v := by
  obtain ⟨A, n, c, f, e, hn, hr⟩ := h
  exact ⟨A, n, c, f, e, hn, hr.keep hG.1 hG.2⟩
theorem SC.keep {Z t : Nat} (h : SC w lo g Z t) (hG : GB lo g w w') : SC w' lo g Z t := by
  obtain ⟨⟨h1, h2, h3⟩, v, hc, hs⟩ := h
  exact ⟨⟨h1, by have := hG.1; omega, h3⟩, v, (World.cell?_of_block (a := ⟨Z, t, none⟩) (hG.2 Z h1 h2 h3)).trans hc, hs.keep hG⟩
theorem SC.new {o : Obj} {t : Nat} (hlo : lo ≤ w.heap.size) (hg : g < w.heap.size) (hc : (w.alloc o).cell? ⟨w.heap.size, t, none⟩ = some v) (hs : SL w lo g v) : SC (w.alloc o) lo g w.heap.size t :=
  ⟨⟨hlo, by simp, by omega⟩, v, hc, hs.keep (GB.alloc _ _)⟩
end
def bkD (j : Nat) : Nat := if j = 13 then 2 else 37 + j
/-- What is known behind the operation j. -/
def BkF (T lo g k c : Nat) (R : Nat) (j : Nat) (v : Value) (w : World) : Prop :=
  match j with
  | 0 => v = .slice (some ⟨g, 0, none⟩) k c
  | 3 => v = .slice (some ⟨g, 0, none⟩) k c
  | 4 => v = .pointer (some ⟨g, 0, none⟩)
  | 1 => SL w lo g v
  | 2 => SL w lo g v
  | 5 => SL w lo g v
  | 10 => SL w lo g v
  | 6 => ∃ Z, v = .slice (some ⟨Z, 0, none⟩) 3 3 ∧ ∀ t, t < 3 → SC w lo g Z t
  | 7 => v = .pointer (some ⟨R, 0, none⟩)
  | 8 => ∃ t : Nat, t < 3 ∧ v = .int .i64 t
  | 9 => ∃ Z t, v = .pointer (some ⟨Z, t, none⟩) ∧ SC w lo g Z t
  | 11 => ∃ Y, v = .slice (some ⟨Y, 0, none⟩) 1 1 ∧ SC w lo g Y 0
  | _ => ∃ g' c' D', v = .slice (some ⟨g', 0, none⟩) (k + 1) c' ∧ lens6 D' (k + 1) ∧ DLs w T lo g' (k + 1) c' D'
theorem BkF.keep {T lo g k c R j : Nat} {v : Value} {w w' : World} (h : BkF T lo g k c R j v w) (hG : GB lo g w w') (hw : 12 ≤ j → w' = w) : BkF T lo g k c R j v w' := by
  by_cases hj : 12 ≤ j
  · rw [hw hj]; exact h
  · have hj' : j = 0 ∨ j = 1 ∨ j = 2 ∨ j = 3 ∨ j = 4 ∨ j = 5 ∨ j = 6 ∨ j = 7 ∨ j = 8 ∨ j = 9 ∨ j = 10 ∨ j = 11 := by omega
    rcases hj' with rfl | rfl | rfl | rfl | rfl | rfl | rfl | rfl | rfl | rfl | rfl | rfl
    · exact h
    · exact SL.keep h hG
    · exact SL.keep h hG
    · exact h
    · exact h
    · exact SL.keep h hG
    · obtain ⟨Z, e, hc⟩ := h; exact ⟨Z, e, fun t ht => (hc t ht).keep hG⟩
    · exact h
    · exact h
    · obtain ⟨Z, t, e, hc⟩ := h; exact ⟨Z, t, e, hc.keep hG⟩
    · exact SL.keep h hG
    · obtain ⟨Y, e, hc⟩ := h; exact ⟨Y, e, hc.keep hG⟩
/-- The invariant. -/
def BkI (T B lo g k c R q0 : Nat) (D : Nat → LD) (W : World) (L : Array Bool) (a : Act) (w : World) : Prop :=
  (a.tmps.size = 51 ∧ a.defers = [] ∧ a.eval (.tmp 0) = .pointer (some ⟨R, 0, none⟩) ∧ a.eval (.tmp 3) = .slice (some ⟨g, 0, none⟩) k c) ∧
  (∃ q, Rd B w R q ∧ q + (if L.getD 8 false = true then 0 else 1) ≤ q0) ∧ W.grownBy w (some R) ∧ (L.getD 12 false = false → DLs w T lo g k c D) ∧ ∀ j, j < 14 → L.getD j false = true → BkF T lo g k c R j (a.eval (.tmp (bkD j))) w
theorem BkI.step {T B lo g k c R q0 : Nat} {D : Nat → LD} {W : World} {L : Array Bool} {a : Act} {w w' : World} {i : Nat} {v : Value} (h : BkI T B lo g k c R q0 D W L a w) (hi : i < 14) (hL : L.size = 14)
    (hG : GB lo g w w') (hw : L.getD 12 false = true ∨ L.getD 13 false = true → w' = w) (hR : ∃ q, Rd B w' R q ∧ q + (if (L.setIfInBounds i true).getD 8 false = true then 0 else 1) ≤ q0) (hg : W.grownBy w' (some R))
    (hD : (L.setIfInBounds i true).getD 12 false = false → DLs w' T lo g k c D) (hv : BkF T lo g k c R i v w') : BkI T B lo g k c R q0 D W (L.setIfInBounds i true) (a.put (some (bkD i)) v) w' := by
  obtain ⟨⟨h1, h2, h3, h4⟩, h5, h6, h7, h8⟩ := h
  have hb : bkD i < 51 ∧ bkD i ≠ 0 ∧ bkD i ≠ 3 := by unfold bkD; split <;> omega
  refine ⟨⟨by rw [put_size]; exact h1, by rw [put_defers]; exact h2, by rw [put_ne hb.2.1]; exact h3, by rw [put_ne hb.2.2]; exact h4⟩, hR, hg, hD, fun j hj hl => ?_⟩
  by_cases e : j = i
  · subst e
    rw [put_same (by omega)]; exact hv
  · have hne : bkD i ≠ bkD j := by unfold bkD; split <;> split <;> omega
    rw [put_ne hne]
    rw [getD_set_ne false (Ne.symm e)] at hl
    refine (h8 j hj hl).keep hG (fun h12 => hw ?_)
    have : j = 12 ∨ j = 13 := by omega
    rcases this with rfl | rfl
    · exact .inl hl
    · exact .inr hl
/-- A step that leaves the world. -/
theorem BkI.same {T B lo g k c R q0 : Nat} {D : Nat → LD} {W : World} {L : Array Bool} {a : Act} {w : World} {i : Nat} {v : Value} (h : BkI T B lo g k c R q0 D W L a w) (hi : i < 14) (hL : L.size = 14) (h8 : i ≠ 8)
    (hv : BkF T lo g k c R i v w) : BkI T B lo g k c R q0 D W (L.setIfInBounds i true) (a.put (some (bkD i)) v) w :=
  h.step hi hL (GB.refl _ _ _) (fun _ => rfl) (by rw [getD_set_ne false h8]; exact h.2.1) h.2.2.1 (fun e => h.2.2.2.1 (by
    by_cases e2 : i = 12
    · subst e2
      rw [getD_same (by omega)] at e
      cases e
    · rwa [getD_set_ne false e2] at e)) hv
/-- A step that makes memory. -/
theorem BkI.made {T B lo g k c R q0 : Nat} {D : Nat → LD} {W : World} {L : Array Bool} {a : Act} {w : World} {i : Nat} {v : Value} (o : Obj) (h : BkI T B lo g k c R q0 D W L a w) (hi : i < 14) (hL : L.size = 14) (h8 : i ≠ 8) (h12 : i ≠ 12)
    (hno : L.getD 12 false = false ∧ L.getD 13 false = false) (hv : BkF T lo g k c R i v (w.alloc o)) : BkI T B lo g k c R q0 D W (L.setIfInBounds i true) (a.put (some (bkD i)) v) (w.alloc o) := by
  refine h.step hi hL (GB.alloc _ _) (fun x => by rw [hno.1, hno.2] at x; simp at x) ?_ (gb_alloc h.2.2.1 o) (fun e => (h.2.2.2.1 hno.1).alloc o) hv
  rw [getD_set_ne false h8]
  obtain ⟨q, hq, h2⟩ := h.2.1
  exact ⟨q, hq.alloc o, h2⟩
end Go.Proofs.Ytanfhgliilkhjaa
