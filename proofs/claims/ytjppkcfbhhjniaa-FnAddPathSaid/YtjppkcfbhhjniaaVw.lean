/-
  Words for memory: a slice of paths that the call itself makes out of paths that it only reads.
-/
import Derived.Test.YtjppkcfbhhjniaaPathOr
import Derived.Test.YtjppkcfbhhjniaaPathAs
namespace Go.Proofs.Ytjppkcfbhhjniaa
open Go.RowKit Go.Deep
set_option linter.unusedVariables false

/-- Cells that are paths; what they lead to lies below block lo. -/
def VwC (w : World) (lo k : Nat) (D : Nat → PD) (xs : List Value) : Prop :=
  xs.length = k * 2 ∧ ∀ i, i < k → ∃ a1 c1 a2 c2, xs[i * 2]? = some (.slice a1 (D i).m1 c1) ∧ xs[i * 2 + 1]? = some (.slice a2 (D i).m2 c2) ∧ Rn w lo a1 (D i).m1 (D i).f1 ∧ Rn w lo a2 (D i).m2 (D i).f2
/-- A slice of such paths, whose row is the call's own. -/
def Vw (w : World) (T : TypeId) (lo g k c : Nat) (D : Nat → PD) : Prop := ∃ xs : List Value, w.ownsRow lo T 2 (.slice (some ⟨g, 0, none⟩) k c) k xs ∧ VwC w lo k D xs
section
variable {w w' : World} {T lo g k c m : Nat} {D E : Nat → PD} {xs ys : List Value}
theorem VwC.one (h : VwC w lo k D xs) : ∀ u ∈ xs, u.oneCell' = true := by
  intro u hu
  obtain ⟨hl, h⟩ := h
  obtain ⟨j, hj, e⟩ := List.getElem_of_mem hu
  have hj2 : xs[j]? = some u := by rw [List.getElem?_eq_getElem hj, e]
  obtain ⟨a1, c1, a2, c2, e1, e2, _, _⟩ := h (j / 2) (by omega)
  rcases (show j = j / 2 * 2 ∨ j = j / 2 * 2 + 1 by omega) with q | q
  · rw [q, e1] at hj2; injection hj2 with hj2; rw [← hj2]; rfl
  · rw [q, e2] at hj2; injection hj2 with hj2; rw [← hj2]; rfl
theorem VwC.keep (h : VwC w lo k D xs) (hk : ∀ b, b < lo → w'.heap[b]? = w.heap[b]?) : VwC w' lo k D xs :=
  ⟨h.1, fun i hi => by
    obtain ⟨a1, c1, a2, c2, e1, e2, r1, r2⟩ := h.2 i hi
    exact ⟨a1, c1, a2, c2, e1, e2, r1.keep hk, r2.keep hk⟩⟩
theorem VwC.up (h : VwC w lo k D xs) {l : Nat} (hl : lo ≤ l) : VwC w l k D xs :=
  ⟨h.1, fun i hi => by
    obtain ⟨a1, c1, a2, c2, e1, e2, r1, r2⟩ := h.2 i hi
    exact ⟨a1, c1, a2, c2, e1, e2, r1.up hl, r2.up hl⟩⟩
theorem VwC.congr (h : VwC w lo k D xs) (e : ∀ i, i < k → D i = E i) : VwC w lo k E xs :=
  ⟨h.1, fun i hi => by rw [← e i hi]; exact h.2 i hi⟩
theorem VwC.nil (w : World) (lo : Nat) (D : Nat → PD) : VwC w lo 0 D [] := ⟨rfl, fun i hi => absurd hi (by omega)⟩
theorem VwC.app (h : VwC w lo k D xs) (h2 : VwC w lo m E ys) : VwC w lo (k + m) (fun i => if i < k then D i else E (i - k)) (xs ++ ys) := by
  obtain ⟨hl, h⟩ := h
  obtain ⟨hl2, h2⟩ := h2
  refine ⟨by rw [List.length_append]; omega, fun i hi => ?_⟩
  by_cases c : i < k
  · simp only [if_pos c]
    obtain ⟨a1, c1, a2, c2, e1, e2, r1, r2⟩ := h i c
    exact ⟨a1, c1, a2, c2, by rw [List.getElem?_append_left (by omega), e1], by rw [List.getElem?_append_left (by omega), e2], r1, r2⟩
  · simp only [if_neg c]
    obtain ⟨a1, c1, a2, c2, e1, e2, r1, r2⟩ := h2 (i - k) (by omega)
    refine ⟨a1, c1, a2, c2, ?_, ?_, r1, r2⟩
    · rw [List.getElem?_append_right (by omega), hl, show i * 2 - k * 2 = (i - k) * 2 by omega, e1]
    · rw [List.getElem?_append_right (by omega), hl, show i * 2 + 1 - k * 2 = (i - k) * 2 + 1 by omega, e2]
theorem VwC.path {a1 a2 : Option Addr} {n1 n2 c1 c2 : Nat} {f1 f2 : Nat → Int} (r1 : Rn w lo a1 n1 f1) (r2 : Rn w lo a2 n2 f2) : VwC w lo 1 (fun _ => ⟨n1, f1, n2, f2⟩) [.slice a1 n1 c1, .slice a2 n2 c2] :=
  ⟨rfl, fun i hi => by obtain rfl : i = 0 := by omega
                       exact ⟨a1, c1, a2, c2, rfl, rfl, r1, r2⟩⟩
/-- The cells of a slice of paths that is read. -/
theorem PsRn.row {B off : Nat} (h : PsRn w B (some ⟨g, off, none⟩) m D) : ∃ xs, VwC w B m D xs ∧ ∀ j u, xs[j]? = some u → w.cell? ((⟨g, off, none⟩ : Addr).add j) = some u := by
  have key : ∀ j, j < m * 2 → ∃ v, w.cell? ⟨g, off + j, none⟩ = some v := fun j hj => by
    obtain ⟨b, o, e, _, hc⟩ := h (by omega)
    simp only [Option.some.injEq, Addr.mk.injEq, and_true] at e
    obtain ⟨rfl, rfl⟩ := e
    obtain ⟨a1, c1, a2, c2, h1, h2, _, _⟩ := hc (j / 2) (by omega)
    rcases (show j = j / 2 * 2 ∨ j = j / 2 * 2 + 1 by omega) with q | q
    · rw [q]; exact ⟨_, h1⟩
    · rw [q]; exact ⟨_, h2⟩
  refine ⟨(List.range (m * 2)).map fun j => (w.cell? ⟨g, off + j, none⟩).getD (.int .i64 0), ⟨by simp, fun i hi => ?_⟩, fun j u hu => ?_⟩
  · obtain ⟨b, o, e, _, hc⟩ := h (by omega)
    simp only [Option.some.injEq, Addr.mk.injEq, and_true] at e
    obtain ⟨rfl, rfl⟩ := e
    obtain ⟨a1, c1, a2, c2, h1, h2, r1, r2⟩ := hc i hi
    refine ⟨a1, c1, a2, c2, ?_, ?_, r1, r2⟩
    · rw [List.getElem?_map, List.getElem?_range (by omega)]; simp [h1]
    · rw [List.getElem?_map, List.getElem?_range (by omega)]; simp [← Nat.add_assoc, h2]
  · rw [List.getElem?_map] at hu
    by_cases hj : j < m * 2
    · rw [List.getElem?_range hj] at hu
      obtain ⟨v, hv⟩ := key j hj
      simp [hv] at hu
      rw [add_at, hv, hu]
    · rw [List.getElem?_eq_none (by simp; omega)] at hu; cases hu
theorem Vw.lt (h : Vw w T lo g k c D) : lo ≤ g ∧ g < w.heap.size := by
  obtain ⟨xs, ho, _⟩ := h
  exact ho.lt g rfl
theorem Vw.call (h : Vw w T lo g k c D) (hb : Below w.heap.size w w') : Vw w' T lo g k c D := by
  have := h.lt
  obtain ⟨xs, ho, hx⟩ := h
  exact ⟨xs, owns_call ho hb, hx.keep fun b hbl => hb.block b (by omega)⟩
theorem Vw.drewN (h : Vw w T lo g k c D) (q : Nat) : Vw (w.drewN q) T lo g k c D := h
theorem Vw.new0 (w : World) (T lo : Nat) (D : Nat → PD) (hlo : lo ≤ w.heap.size) : Vw (w.alloc (.cells #[] T)) T lo w.heap.size 0 0 D :=
  ⟨[], World.ownsRow_made w #[] 0 hlo (by unfold maxLen; omega) (by simp), VwC.nil _ _ _⟩
theorem Vw.rn (h : Vw w T lo g k c D) : PsRn w w.heap.size (some ⟨g, 0, none⟩) k D := fun hn => by
  have hlt := h.lt
  obtain ⟨xs, ho, _, h1⟩ := h
  refine ⟨g, 0, rfl, hlt.2, fun i hi => ?_⟩
  obtain ⟨a1, c1, a2, c2, e1, e2, r1, r2⟩ := h1 i hi
  have z1 := ho.cells (g := g) rfl _ _ e1
  have z2 := ho.cells (g := g) rfl _ _ e2
  rw [add_at] at z1 z2
  exact ⟨a1, c1, a2, c2, z1, by rwa [Nat.add_assoc], r1.up (by omega), r2.up (by omega)⟩
/-- Paths are appended. -/
theorem Vw.app {g' c' : Nat} (hx : VwC w lo k D xs) (hy : VwC w lo m E ys) (ho : w'.ownsRow lo T 2 (.slice (some ⟨g', 0, none⟩) (k + m) c') (k + m) (xs ++ ys)) (hk : ∀ b, b < lo → w'.heap[b]? = w.heap[b]?) : Vw w' T lo g' (k + m) c' (fun i => if i < k then D i else E (i - k)) :=
  ⟨_, ho, (hx.app hy).keep hk⟩
/-- One path is appended. -/
theorem Vw.put {g' c' n1 n2 c1 c2 : Nat} {a1 a2 : Option Addr} {f1 f2 : Nat → Int} (hx : VwC w lo k D xs) (r1 : Rn w lo a1 n1 f1) (r2 : Rn w lo a2 n2 f2) (ho : w'.ownsRow lo T 2 (.slice (some ⟨g', 0, none⟩) (k + 1) c') (k + 1) (xs ++ [.slice a1 n1 c1, .slice a2 n2 c2])) (hk : ∀ b, b < lo → w'.heap[b]? = w.heap[b]?) :
    Vw w' T lo g' (k + 1) c' (addD D k ⟨n1, f1, n2, f2⟩) :=
  ⟨_, ho, ((hx.app (VwC.path r1 r2)).congr fun i hi => by
    by_cases c : i < k
    · rw [if_pos c, addD_lt c]
    · obtain rfl : i = k := by omega
      rw [if_neg c, addD_at]).keep hk⟩
theorem Vw.congr (h : Vw w T lo g k c D) (e : ∀ i, i < k → D i = E i) : Vw w T lo g k c E := by
  obtain ⟨xs, ho, hx⟩ := h
  exact ⟨xs, ho, hx.congr e⟩
end
end Go.Proofs.Ytjppkcfbhhjniaa
