/-
  A slice of paths that came in, opened.
-/
import Derived.Test.YtjppkcfbhhjniaaPathSM
import Derived.Deep.SlicePairs
namespace Go.Proofs.Ytjppkcfbhhjniaa
open Go.RowKit Go.Deep Go.ChangeShapes Go.WideShapes

theorem IsRow.rn {w : World} {a : Option Addr} {len cap : Nat} {zs : List Int} (h : IsRow .i64 w a len cap zs) : Rn w w.heap.size a len (fun i => zs.getD i 0) ∧ len ≤ cap ∧ cap ≤ 9223372036854775807 := by
  rcases h with ⟨rfl, rfl, rfl, rfl⟩ | ⟨x, rfl, h1, h2, h3, h4, h5⟩
  · exact ⟨fun h => absurd h (by omega), by omega, by omega⟩
  refine ⟨fun hn => ?_, h1, by unfold maxLen at h2; omega⟩
  obtain ⟨b, off, spot⟩ := x
  have hc := h4 0 (by omega)
  have hspot : spot = none := by simpa [Addr.add] using World.cell?_spot hc
  subst hspot
  refine ⟨b, off, rfl, World.block_lt_of_cell? w _ (by simpa [Addr.add] using hc), fun i hi => ?_⟩
  have hci := h4 i (by omega)
  have he : (⟨b, off, none⟩ : Addr).add i = ⟨b, off + i, none⟩ := by unfold Addr.add; split <;> simp_all
  rw [← he]; exact hci
/-- What the frame of a law tells of a slice of paths that came in. -/
def IsPaths (w : World) (a : Option Addr) (len cap : Nat) (D : Nat → PD) : Prop := len ≤ cap ∧ cap ≤ 9223372036854775807 ∧ PsRn w w.heap.size a len D ∧ ∀ i, i < len → (D i).m1 ≤ 9223372036854775807 ∧ (D i).m2 ≤ 9223372036854775807
section
variable {H : Type} {enc : TypeId × Value → H} {P : Program} {w : World} {base : Nat} {held : Bool}
theorem isRow_of {q it : TypeId} {fuel : Nat} {v : Value} {x : DataW H × List MemPlace} (hq : P.underlying q = some (.slice it)) (hi : P.underlying it = some (.int .i64)) (ci : P.cellsOf it = 1) (h : DataW.trod enc P w base (fun _ => true) held fuel q [v] = some x) :
    ∃ a l c zs, v = Value.slice a l c ∧ IsRow .i64 w a l c zs := by
  rcases open_ints hq hi ci h with ⟨hcs, _⟩ | ⟨x, l, c, zs, hcs, _, hl, hm, hz, _, hcell, hwz⟩
  · simp only [List.cons.injEq, and_true] at hcs
    exact ⟨none, 0, 0, [], hcs, .inl ⟨rfl, rfl, rfl, rfl⟩⟩
  · simp only [List.cons.injEq, and_true] at hcs
    exact ⟨some x, l, c, zs, hcs, .inr ⟨_, rfl, hl, hm, by simpa using hz, hcell, hwz⟩⟩
theorem isPaths_of {t e it : TypeId} {f0 f1 : Field} {fuel : Nat} {a : Option Addr} {len cap : Nat} {x : DataW H × List MemPlace} (ht : P.underlying t = some (.slice e)) (he : P.underlying e = some (.struct #[f0, f1]))
    (ce : P.cellsOf e = 2) (o0 : f0.offset = 0) (o1 : f1.offset = 1) (c0 : P.cellsOf f0.type = 1) (c1 : P.cellsOf f1.type = 1) (q0 : P.underlying f0.type = some (.slice it)) (q1 : P.underlying f1.type = some (.slice it)) (hi : P.underlying it = some (.int .i64)) (ci : P.cellsOf it = 1)
    (h : DataW.trod enc P w base (fun _ => true) held fuel t [.slice a len cap] = some x) : ∃ D, IsPaths w a len cap D := by
  rcases open_slice_pairs ht he ce o0 o1 c0 c1 h with ⟨hcs, _⟩ | ⟨a', len', cap', m, n, V0, V1, D0, D1, P0, P1, hcs, hb, hl, hm, hmm, hx, hall⟩
  · simp only [List.cons.injEq, and_true, Value.slice.injEq] at hcs
    obtain ⟨rfl, rfl, rfl⟩ := hcs
    exact ⟨fun _ => ⟨0, fun _ => 0, 0, fun _ => 0⟩, Nat.le_refl _, by omega, fun hn => absurd hn (by omega), fun i hi => absurd hi (by omega)⟩
  · simp only [List.cons.injEq, and_true, Value.slice.injEq] at hcs
    obtain ⟨rfl, rfl, rfl⟩ := hcs
    simp only [if_true] at hmm
    subst hmm
    have each : ∀ i, i < m → ∃ y : (Option Addr × Nat × Nat × List Int) × (Option Addr × Nat × Nat × List Int), V0 i = .slice y.1.1 y.1.2.1 y.1.2.2.1 ∧ V1 i = .slice y.2.1 y.2.2.1 y.2.2.2.1 ∧ IsRow .i64 w y.1.1 y.1.2.1 y.1.2.2.1 y.1.2.2.2 ∧ IsRow .i64 w y.2.1 y.2.2.1 y.2.2.2.1 y.2.2.2.2 := by
      intro i him
      obtain ⟨_, _, t0, t1⟩ := hall i him
      obtain ⟨b1, l1, k1, z1, e1, w1⟩ := isRow_of q0 hi ci t0
      obtain ⟨b2, l2, k2, z2, e2, w2⟩ := isRow_of q1 hi ci t1
      exact ⟨((b1, l1, k1, z1), (b2, l2, k2, z2)), e1, e2, w1, w2⟩
    haveI : Inhabited ((Option Addr × Nat × Nat × List Int) × (Option Addr × Nat × Nat × List Int)) := ⟨((none, 0, 0, []), (none, 0, 0, []))⟩
    obtain ⟨y, hy⟩ := choose_lt each
    have hm2 := hm
    unfold maxLen at hm2
    refine ⟨fun i => ⟨(y i).1.2.1, fun j => (y i).1.2.2.2.getD j 0, (y i).2.2.1, fun j => (y i).2.2.2.2.getD j 0⟩, hl, hm2, fun hn => ?_, fun i hi2 => ?_⟩
    · obtain ⟨b, off, spot⟩ := a'
      have hc := (hall 0 (by omega)).1
      have hspot : spot = none := by simpa [Addr.add] using World.cell?_spot hc
      subst hspot
      refine ⟨b, off, rfl, World.block_lt_of_cell? w _ (by simpa [Addr.add] using hc), fun i hi2 => ?_⟩
      obtain ⟨h1, h2, _, _⟩ := hall i (by omega)
      obtain ⟨e1, e2, w1, w2⟩ := hy i (by omega)
      have ha : ∀ j, (⟨b, off, none⟩ : Addr).add j = ⟨b, off + j, none⟩ := fun j => by unfold Addr.add; split <;> simp_all
      rw [ha] at h1 h2
      exact ⟨(y i).1.1, (y i).1.2.2.1, (y i).2.1, (y i).2.2.2.1, by rw [h1, e1], by rw [← e2, ← h2]; rfl, w1.rn.1, w2.rn.1⟩
    · obtain ⟨_, _, w1, w2⟩ := hy i (by omega)
      have k1 := w1.rn.2
      have k2 := w2.rn.2
      exact ⟨by show (y i).1.2.1 ≤ _; omega, by show (y i).2.2.1 ≤ _; omega⟩
end
end Go.Proofs.Ytjppkcfbhhjniaa
