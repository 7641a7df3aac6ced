/-
  A slice of int slices that came in, opened.
-/
import Derived.Test.YtanfhgliilkhjaaBkI
import Derived.Deep.Matrix
namespace Go.Proofs.Ytanfhgliilkhjaa
open Go.RowKit Go.Deep Go.ChangeShapes Go.WideShapes

theorem IsRow.rn {w : World} {a : Option Addr} {len cap : Nat} {zs : List Int} (h : IsRow .i64 w a len cap zs) : Rn w w.heap.size a len (fun i => zs.getD i 0) ∧ len ≤ cap ∧ cap ≤ 9223372036854775807 := by
  rcases h with ⟨rfl, rfl, rfl, rfl⟩ | ⟨x, rfl, h1, h2, h3, h4, h5⟩
  · exact ⟨fun h => absurd h (by omega), by omega, by omega⟩
  refine ⟨fun hn => ?_, h1, by unfold maxLen at h2; omega⟩
  obtain ⟨b, off, spot⟩ := x
  have hc := h4 0 (by omega)
  have hspot : spot = none := by simpa [Addr.add] using World.cell?_spot hc
  subst hspot
  refine ⟨b, off, rfl, World.block_lt_of_cell? w _ (by simpa [Addr.add] using hc), fun i hi => ?_⟩
  have hci := h4 i (by omega)
  have he : (⟨b, off, none⟩ : Addr).add i = ⟨b, off + i, none⟩ := by unfold Addr.add; split <;> simp_all
  rw [← he]; exact hci
/-- What the frame of a law tells of a slice of int slices that came in. -/
def IsLists (w : World) (a : Option Addr) (len cap : Nat) (D : Nat → LD) : Prop := len ≤ cap ∧ cap ≤ 9223372036854775807 ∧ SsRn w w.heap.size a len D ∧ ∀ i, i < len → (D i).n ≤ 9223372036854775807
section
variable {H : Type} {enc : TypeId × Value → H} {P : Program} {w : World} {base : Nat} {held : Bool}
theorem isLists_of {t e it : TypeId} {fuel : Nat} {a : Option Addr} {len cap : Nat} {x : DataW H × List MemPlace} (ht : P.underlying t = some (.slice e)) (he : P.underlying e = some (.slice it)) (hi : P.underlying it = some (.int .i64))
    (ce : P.cellsOf e = 1) (ci : P.cellsOf it = 1) (h : DataW.trod enc P w base (fun _ => true) held fuel t [.slice a len cap] = some x) : ∃ D, IsLists w a len cap D := by
  rcases open_int_rows ht he hi ce ci h with ⟨hcs, _⟩ | ⟨a', len', cap', A, L, C, Z, hcs, hb, hl, hm, hx, hall⟩
  · simp only [List.cons.injEq, and_true, Value.slice.injEq] at hcs
    obtain ⟨rfl, rfl, rfl⟩ := hcs
    exact ⟨fun _ => ⟨0, fun _ => 0⟩, Nat.le_refl _, by omega, fun hn => absurd hn (by omega), fun i hi => absurd hi (by omega)⟩
  · simp only [List.cons.injEq, and_true, Value.slice.injEq] at hcs
    obtain ⟨rfl, rfl, rfl⟩ := hcs
    have hm2 := hm
    unfold maxLen at hm2
    refine ⟨fun i => ⟨L i, fun j => (Z i).getD j 0⟩, hl, hm2, fun hn => ?_, fun i hi2 => ?_⟩
    · obtain ⟨b, off, spot⟩ := a'
      have hc := (hall 0 (by omega)).1
      have hspot : spot = none := by simpa [Addr.add] using World.cell?_spot hc
      subst hspot
      refine ⟨b, off, rfl, World.block_lt_of_cell? w _ (by simpa [Addr.add] using hc), fun i hi2 => ?_⟩
      obtain ⟨h1, h2, h3, h4, h5, h6, h7⟩ := hall i (by omega)
      have ha : ∀ (b off j : Nat), (⟨b, off, none⟩ : Addr).add j = ⟨b, off + j, none⟩ := fun b off j => by unfold Addr.add; split <;> simp_all
      rw [ha] at h1
      refine ⟨A i, C i, h1, fun hpos => ?_⟩
      have hpos : 0 < L i := hpos
      cases hA : A i with
      | none => have := h6 hA; omega
      | some y =>
        obtain ⟨b2, off2, spot2⟩ := y
        obtain ⟨_, hcc⟩ := h7 _ hA
        have hc0 := hcc 0 (by omega)
        have hsp2 : spot2 = none := by simpa [Addr.add] using World.cell?_spot hc0
        subst hsp2
        refine ⟨b2, off2, rfl, World.block_lt_of_cell? w _ (by simpa [Addr.add] using hc0), fun j hj => ?_⟩
        have hj : j < L i := hj
        have := hcc j (by omega)
        rwa [ha] at this
    · obtain ⟨h1, h2, h3, h4, h5, h6, h7⟩ := hall i (by omega)
      unfold maxLen at h3
      show L i ≤ _
      omega
end
end Go.Proofs.Ytanfhgliilkhjaa
