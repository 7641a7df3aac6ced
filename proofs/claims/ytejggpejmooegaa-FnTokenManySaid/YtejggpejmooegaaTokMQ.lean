/-
  Contracts of the queue of states: take. (put is to come.)
-/
import Derived.Test.YtejggpejmooegaaTokMP
import Derived.Test.YtejggpejmooegaaBox
import Derived.Test.YtejggpejmooegaaDrawP
import Derived.Lib.Hide
import Derived.BigQuiet
import Derived.Deep.QuietTactic
import Derived.Deep.RegionHeld3
namespace Go.Proofs.Ytejggpejmooegaa
open Go.RowKit Go.Deep
set_option linter.unusedVariables false

/-- A state as a value. -/
def tkL (s : Tk) : Value := .agg #[.int .i64 s.1, .int .i64 s.2.1, .int .i64 s.2.2]
/-- States that are read at the slice (A, n), in blocks below X other than Q. -/
def TR (w : World) (Q X : Nat) (A : Option Addr) (l : List Tk) : Prop := 0 < l.length → ∃ b off, A = some ⟨b, off, none⟩ ∧ (b < X ∧ b ≠ Q) ∧ ∀ i (h : i < l.length), w.cell? ⟨b, off + i * 3, none⟩ = some (.int .i64 l[i].1) ∧ w.cell? ⟨b, off + i * 3 + 1, none⟩ = some (.int .i64 l[i].2.1) ∧ w.cell? ⟨b, off + i * 3 + 2, none⟩ = some (.int .i64 l[i].2.2)
/-- A queue that is taken from; all of it lies below X. -/
def TQ (w : World) (Q X : Nat) (l : List Tk) : Prop := ∃ A c, Bx w Q [.slice A l.length c] ∧ l.length ≤ c ∧ (Q < X ∧ X ≤ w.heap.size) ∧ TR w Q X A l
theorem TR.keep {w w' : World} {Q X : Nat} {A : Option Addr} {l : List Tk} (h : TR w Q X A l) (hk : ∀ b, b < X → b ≠ Q → w'.heap[b]? = w.heap[b]?) : TR w' Q X A l := fun hn => by
  obtain ⟨b, off, e, ⟨hb, hne⟩, hx⟩ := h hn
  refine ⟨b, off, e, ⟨hb, hne⟩, fun i hi => ?_⟩
  obtain ⟨x0, x1, x2⟩ := hx i hi
  exact ⟨(World.cell?_of_block (a := ⟨b, _, none⟩) (hk b hb hne)).trans x0, (World.cell?_of_block (a := ⟨b, _, none⟩) (hk b hb hne)).trans x1, (World.cell?_of_block (a := ⟨b, _, none⟩) (hk b hb hne)).trans x2⟩
/-- The rest of what is read. -/
theorem TR.rest {w : World} {Q X b off : Nat} {s : Tk} {r : List Tk} (h : TR w Q X (some ⟨b, off, none⟩) (s :: r)) : TR w Q X (some ⟨b, off + 3, none⟩) r := fun hn => by
  obtain ⟨b', off', e, hb, hx⟩ := h (by simp)
  simp only [Option.some.injEq, Addr.mk.injEq, and_true] at e
  obtain ⟨rfl, rfl⟩ := e
  refine ⟨b, off + 3, rfl, hb, fun i hi => ?_⟩
  obtain ⟨x0, x1, x2⟩ := hx (i + 1) (by simp; omega)
  rw [List.getElem_cons_succ] at x0 x1 x2
  rw [show off + (i + 1) * 3 = off + 3 + i * 3 by omega] at x0 x1 x2
  exact ⟨x0, x1, x2⟩
theorem TR.nil {w : World} {Q X : Nat} {A : Option Addr} {l : List Tk} (h : l.length = 0) : TR w Q X A l := fun hn => by omega
/-- Behind a store into the queue's cell and two blocks more. -/
theorem tq_next {w : World} {Q X n c : Nat} {A : Option Addr} {u : Value} {r : List Tk} (o o' : Obj) (h : Bx w Q [u]) (hn : r.length = n) (hc : n ≤ c) (hX : Q < X ∧ X ≤ w.heap.size) (hr : TR w Q X A r) : TQ (((w.setCell ⟨Q, 0, none⟩ (.slice A n c)).alloc o).alloc o') Q X r := by
  subst hn
  refine ⟨A, c, ((h.set 0 _).alloc o).alloc o', hc, ⟨hX.1, by simp [World.setCell]; omega⟩, hr.keep fun b hb hne => ?_⟩
  rw [blk_alloc_lt _ _ _ (by simp [World.setCell]; omega), blk_alloc_lt _ _ _ (by simp [World.setCell]; omega), blk_setCell_other _ _ _ _ hne]
theorem tq_grown {w : World} {Q : Nat} (v : Value) (o o' : Obj) : w.grownBy (((w.setCell ⟨Q, 0, none⟩ v).alloc o).alloc o') (some Q) := gb_alloc (gb_alloc (gb_setCell (gb_refl w _) (.inl rfl) v) o) o'
theorem lt_cell {w : World} {a : Addr} {v : Value} (h : w.cell? a = some v) : a.block < w.heap.size := World.block_lt_of_cell? w _ h
set_option maxHeartbeats 1000000 in
theorem qTake0 (Q X : Nat) (w : World) (h : TQ w Q X []) :
    Calls Try.prog 68 #[.pointer (some ⟨Q, 0, none⟩)] w fun e w' => e = .returned (.tuple #[tkL (0, 0, 0), .bool false]) ∧ Below w.heap.size w w' := by
  obtain ⟨A, c, hb, _, _, _⟩ := h
  have hc := hb.cell (i := 0) (by simp)
  have hl := hb.lt
  clear hb
  simp only [List.length_nil, List.getElem_cons_zero] at hc
  go_enter Try.func68, Try.ntmps68
  go_wp2
  refine bodyPost_ret (by simp [results, Try.results68, go_sem, *]; rfl) rfl ?_
  exact ⟨rfl, by go_grown⟩
set_option maxHeartbeats 2000000 in
theorem qTake1 (Q X : Nat) (s : Tk) (r : List Tk) (w : World) (h : TQ w Q X (s :: r)) (hr : r.length ≤ 1000000000000) :
    Calls Try.prog 68 #[.pointer (some ⟨Q, 0, none⟩)] w fun e w' => e = .returned (.tuple #[tkL s, .bool true]) ∧ TQ w' Q X r ∧ w.grownBy w' (some Q) := by
  obtain ⟨A, c, hBx, hlc, hXX, hR⟩ := h
  have XX := Lib.hid hXX
  have hc := hBx.cell (i := 0) (by simp)
  have hf := hBx.frz 0
  have hl := hBx.lt
  have BX := Lib.hid hBx
  have TRR := Lib.hid hR
  clear hBx
  obtain ⟨b, off, rfl, ⟨hb, hne⟩, hx⟩ := hR (by simp)
  have hb2 : b < w.heap.size := by omega
  obtain ⟨x0, x1, x2⟩ := hx 0 (by simp)
  simp only [Nat.zero_mul, Nat.add_zero, List.getElem_cons_zero] at x0 x1 x2
  obtain ⟨s1, s2, s3⟩ := s
  obtain ⟨n, hn⟩ : ∃ n, r.length = n := ⟨_, rfl⟩
  simp only [List.length_cons, List.getElem_cons_zero] at hc hlc
  rw [hn] at hc hlc hr
  simp only [] at x0 x1 x2
  have HX := Lib.hid hx
  have HN := Lib.hid hn
  have d0 : (((n : Int) + 1) == 0) = false := beq_eq_false_iff_ne.2 (by omega)
  have y0 : (1 : Int) ≤ (n : Int) + 1 := by omega
  have y1 : (n : Int) + 1 ≤ (c : Int) := by omega
  have y2 : (1 : Int) ≤ (c : Int) := by omega
  have y3 : (0 : Int) < (n : Int) + 1 := by omega
  have hne2 : Q ≠ b := Ne.symm hne
  clear hx hn hR hXX hb
  go_enter Try.func68, Try.ntmps68
  go_wp2
  · refine bodyPost_ret (by simp [results, Try.results68, go_sem, *]; rfl) rfl ?_
    exact ⟨rfl, tq_next _ _ BX.out HN.out (by omega) XX.out (TR.nil (by have := HN.out; omega)), tq_grown _ _ _⟩
  · refine bodyPost_ret (by simp [results, Try.results68, go_sem, *]; rfl) rfl ?_
    exact ⟨rfl, tq_next _ _ BX.out HN.out (by omega) XX.out TRR.out.rest, tq_grown _ _ _⟩
end Go.Proofs.Ytejggpejmooegaa
