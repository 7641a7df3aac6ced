/-
  Notes among a law's arguments; what the marks leave.
-/
import Derived.Test.YtanfhgliilkhjaaRegU
import Derived.Deep.SlicePairs
namespace Go.Proofs.Ytanfhgliilkhjaa
open Go.RowKit Go.Deep
set_option linter.unusedVariables false

def IsNotes (w : World) (a : Option Addr) (len cap : Nat) (N : Nat → ND) : Prop := len ≤ cap ∧ cap ≤ 9223372036854775807 ∧ NsRn w w.heap.size a len N ∧ ∀ i, i < len → (N i).s.size ≤ 9223372036854775807
section
open Go.ChangeShapes Go.WideShapes Go.ChangeAt
variable {H : Type} {enc : TypeId × Value → H} {P : Program} {w : World} {base : Nat} {held : Bool}
theorem isNotes_of {t e : TypeId} {f0 f1 : Field} {fuel : Nat} {a : Option Addr} {len cap : Nat} {x : DataW H × List MemPlace} (ht : P.underlying t = some (.slice e)) (he : P.underlying e = some (.struct #[f0, f1]))
    (ce : P.cellsOf e = 2) (o0 : f0.offset = 0) (o1 : f1.offset = 1) (c0 : P.cellsOf f0.type = 1) (c1 : P.cellsOf f1.type = 1) (q0 : P.underlying f0.type = some (.int .i64)) (q1 : P.underlying f1.type = some .string)
    (h : DataW.trod enc P w base (fun _ => true) held fuel t [.slice a len cap] = some x) : ∃ N, IsNotes w a len cap N := by
  rcases open_slice_pairs ht he ce o0 o1 c0 c1 h with ⟨hcs, _⟩ | ⟨a', len', cap', m, n, V0, V1, D0, D1, P0, P1, hcs, hb, hl, hm, hmm, hx, hall⟩
  · simp only [List.cons.injEq, and_true, Value.slice.injEq] at hcs
    obtain ⟨rfl, rfl, rfl⟩ := hcs
    exact ⟨fun _ => ⟨0, ⟨#[]⟩⟩, Nat.le_refl _, by omega, fun hn => absurd hn (by omega), fun i hi => absurd hi (by omega)⟩
  · simp only [List.cons.injEq, and_true, Value.slice.injEq] at hcs
    obtain ⟨rfl, rfl, rfl⟩ := hcs
    simp only [if_true] at hmm
    subst hmm
    have each : ∀ i, i < m → ∃ y : Int × ByteArray, V0 i = .int .i64 y.1 ∧ V1 i = .string y.2 ∧ y.2.size ≤ maxLen := by
      intro i him
      obtain ⟨_, _, t0, t1⟩ := hall i him
      obtain ⟨v, e1, _, _⟩ := DataW.trod_int q0 t0
      obtain ⟨s, e2, _, hs⟩ := DataW.trod_string q1 t1
      simp only [List.cons.injEq, and_true] at e1 e2
      exact ⟨(v, s), e1, e2, hs⟩
    haveI : Inhabited (Int × ByteArray) := ⟨(0, ⟨#[]⟩)⟩
    obtain ⟨y, hy⟩ := choose_lt each
    have hm2 := hm
    unfold maxLen at hm2
    refine ⟨fun i => ⟨(y i).1, (y i).2⟩, hl, hm2, fun hn => ?_, fun i hi2 => ?_⟩
    · obtain ⟨b, off, spot⟩ := a'
      have hc := (hall 0 (by omega)).1
      have hspot : spot = none := by simpa [Addr.add] using World.cell?_spot hc
      subst hspot
      refine ⟨b, off, rfl, World.block_lt_of_cell? w _ (by simpa [Addr.add] using hc), fun i hi2 => ?_⟩
      obtain ⟨h1, h2, _, _⟩ := hall i (by omega)
      obtain ⟨e1, e2, _⟩ := hy i (by omega)
      have ha : ∀ j, (⟨b, off, none⟩ : Addr).add j = ⟨b, off + j, none⟩ := fun j => by unfold Addr.add; split <;> simp_all
      rw [ha] at h1 h2
      exact ⟨by rw [h1, e1], by rw [← e2, ← h2]; rfl⟩
    · obtain ⟨_, _, w1⟩ := hy i (by omega)
      unfold maxLen at w1
      exact w1
end
theorem Hold.nsc {W : World} {l : List Atom} {B n : Nat} {A : Option Addr} {N : Nat → ND} (h : Hold W (nsA B A n N :: l)) : NsRn W B A n N := h.hd
theorem markNoteS_no (lo hi : Nat) (A : Option Addr) (n c : Nat) (N : Nat → ND) (k0 : Nat) (w : World) (h : ∃ b, (0 < n → lo ≤ b ∧ b < hi) ∧ NsOw w b A n N) (hk0 : 1 ≤ k0) (hk1 : k0 ≤ 1000000000) (hn : n ≤ 1048576) :
    Calls Try.prog 33 #[.slice A n c, .int .i64 (k0 : Int)] w fun e w' => e = .returned (.int .i64 ((k0 : Int) + (n : Int) * 2)) ∧ (∃ b, (0 < n → lo ≤ b ∧ b < hi) ∧ NsOw w' b A n (markN k0)) ∧ Mid lo hi w w' := by
  by_cases h0 : n = 0
  · subst h0
    refine (markNoteS_any A 0 c w.heap.size N k0 w (NsOw.nil _ _ _ _) hk0 hk1 hn).mono ?_
    rintro e w' ⟨he, _, hg⟩
    exact ⟨he, ⟨0, fun h => absurd h (by omega), NsOw.nil _ _ _ _⟩, hg.os, hg.tape, hg.output, hg.size, fun k hk _ => hg.block k hk (fun e => by injection e; omega)⟩
  · obtain ⟨b, hb, ho⟩ := h
    have hb' := hb (by omega)
    refine (markNoteS_any A n c b N k0 w ho hk0 hk1 hn).mono ?_
    rintro e w' ⟨he, ho', hg⟩
    exact ⟨he, ⟨b, hb, ho'⟩, Mid.of_grown hg hb'.1 hb'.2⟩
theorem markNoteS_1 (lo hi : Nat) (A : Option Addr) (n c : Nat) (N : Nat → ND) (w : World) (h : ∃ b, (0 < n → lo ≤ b ∧ b < hi) ∧ NsOw w b A n N) (hn : n ≤ 1048576) :
    Calls Try.prog 33 #[.slice A n c, .int .i64 1] w fun e w' => e = .returned (.int .i64 (1 + (n : Int) * 2)) ∧ (∃ b, (0 < n → lo ≤ b ∧ b < hi) ∧ NsOw w' b A n (markN 1)) ∧ Mid lo hi w w' :=
  markNoteS_no lo hi A n c N 1 w h (by omega) (by omega) hn
theorem heldNoteS_1 (A : Option Addr) (n c : Nat) (w : World) (h : NsRn w w.heap.size A n (markN 1)) (hn : n ≤ 1048576) :
    Calls Try.prog 34 #[.slice A n c, .int .i64 1] w fun e w' => e = .returned (.int .i64 (1 + (n : Int) * 2)) ∧ Below w.heap.size w w' :=
  heldNoteS_any A n c 1 w h (by omega) (by omega) hn
end Go.Proofs.Ytanfhgliilkhjaa
