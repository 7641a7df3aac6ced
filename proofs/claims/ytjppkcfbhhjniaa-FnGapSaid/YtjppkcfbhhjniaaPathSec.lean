/-
  Plain: a section whose trains don't meet: their order, the gaps between them, how busy it is.
-/
import Derived.Test.YtjppkcfbhhjniaaPathSrP
namespace Go.Proofs.Ytjppkcfbhhjniaa
open Go.RowKit
set_option linter.unusedVariables false

/-- Times of m trains in a section: they enter (f), they leave (g), no two are in at once. -/
structure Sec (f g : Nat → Int) (m : Nat) : Prop where
  pos : ∀ i, i < m → 0 ≤ f i ∧ f i < g i ∧ g i ≤ 2000
  dis : ∀ i j, i < m → j < m → i ≠ j → g i ≤ f j ∨ g j ≤ f i
theorem clashT_mem {a b : PD} {k : Nat} (h : clash a b k = true) : ∀ m, k < m → clashT a b m ≠ [] := by
  intro m
  induction m with
  | zero => intro hk; omega
  | succ m ih =>
    intro hk
    rw [clashT_succ]
    by_cases e : k = m
    · subst e; rw [if_pos h]; simp
    · intro h0; exact ih (by omega) (List.append_eq_nil_iff.1 h0).1
theorem firstV_apart {n : Int} {D : Nat → PD} {m : Nat} (h : firstV n D m) {i j k : Nat} (hi : i < m) (hj : j < i) (hk : (k : Int) < n) : clash (D j) (D i) k = false := by
  obtain ⟨h1, h2⟩ := h i hi
  have h3 := (h j (by omega)).1
  have h4 := h2 j hj
  rw [clashL_yes h3 h1] at h4
  cases hc : clash (D j) (D i) k
  · rfl
  · exact absurd h4 (clashT_mem hc _ (by omega))
theorem sec_of {n : Int} {D : Nat → PD} {m k : Nat} (h : pathsV n D m = true) (hk : (k : Int) < n) : Sec (fun i => (D i).f1 k) (fun i => (D i).f2 k) m := by
  obtain ⟨h1, h2, h3, hF⟩ := pathsV_iff.1 h
  have key : ∀ i j, i < m → j < i → (D i).f2 k ≤ (D j).f1 k ∨ (D j).f2 k ≤ (D i).f1 k := by
    intro i j hi hj
    have := firstV_apart hF hi hj hk
    unfold clash at this
    rw [Bool.and_eq_false_iff, decide_eq_false_iff_not, decide_eq_false_iff_not] at this
    omega
  refine ⟨fun i hi => pathV_times (hF i hi).1 hk, fun i j hi hj hne => ?_⟩
  rcases Nat.lt_or_ge j i with h | h
  · exact key i j hi h
  · have := key j i hj (by omega); omega
section
variable {f g : Nat → Int} {m : Nat}
theorem Sec.ne (h : Sec f g m) : ∀ a b, a < m → b < m → a ≠ b → f a ≠ f b := fun a b ha hb hne e => by
  have h1 := h.pos a ha
  have h2 := h.pos b hb
  rcases h.dis a b ha hb hne with h3 | h3 <;> omega
theorem Sec.less (h : Sec f g m) {n : Nat} (hn : n ≤ m) : Sec f g n := ⟨fun i hi => h.pos i (by omega), fun i j hi hj => h.dis i j (by omega) (by omega)⟩
theorem ins_nodup (f : Nat → Int) (x : Nat) (l : List Nat) (h : l.Nodup) (hx : x ∉ l) : (ins f x l).Nodup := by
  induction l with
  | nil => simp [ins]
  | cons y r ih =>
    rw [List.nodup_cons] at h
    simp only [List.mem_cons, not_or] at hx
    simp only [ins]
    split
    · rw [List.nodup_cons]
      refine ⟨fun hy => ?_, ih h.2 hx.2⟩
      rcases (ins_mem f x y r).1 hy with e | e
      · exact hx.1 e.symm
      · exact h.1 e
    · rw [List.nodup_cons]
      exact ⟨by simp only [List.mem_cons, not_or]; exact hx, List.nodup_cons.2 h⟩
theorem ord_nodup (f : Nat → Int) (i : Nat) : (ordN f i).Nodup := by
  induction i with
  | zero => simp [ordN]
  | succ i ih => exact ins_nodup f i _ ih (fun h => by have := (ord_mem f i i).1 h; omega)
theorem ordAt_inj (f : Nat → Int) {i p q : Nat} (hp : p < i) (hq : q < i) (h : ordAt f i p = ordAt f i q) : p = q := by
  have hl := ord_len f i
  rw [ordAt_eq (by omega), ordAt_eq (by omega)] at h
  have hn := List.pairwise_iff_getElem.1 (ord_nodup f i)
  rcases Nat.lt_trichotomy p q with a | a | a
  · exact absurd h (hn p q (by omega) (by omega) a)
  · exact a
  · exact absurd h.symm (hn q p (by omega) (by omega) a)
theorem ordAt_ex (f : Nat → Int) {i x : Nat} (hx : x < i) : ∃ p, p < i ∧ ordAt f i p = x := by
  obtain ⟨p, hp, e⟩ := List.getElem_of_mem ((ord_mem f i x).2 hx)
  exact ⟨p, by rw [ord_len] at hp; exact hp, by rw [ordAt_eq hp]; exact e⟩
/-- One train is in a section at a time. -/
theorem Sec.step (h : Sec f g m) {p q : Nat} (hp : p < q) (hq : q < m) : g (ordAt f m p) ≤ f (ordAt f m q) := by
  have a := ordAt_lt (f := f) (i := m) (t := p) (by omega)
  have b := ordAt_lt (f := f) (i := m) (t := q) hq
  have ne : ordAt f m p ≠ ordAt f m q := fun e => by have := ordAt_inj f (by omega) hq e; omega
  have h1 := h.pos _ a
  have h2 := h.pos _ b
  have h3 := ord_mono f m hp hq
  rcases h.dis _ _ a b ne with h4 | h4 <;> omega
/-- The least of the first t gaps. -/
def gapT (f g : Nat → Int) (m : Nat) : Nat → Int
  | 0 => 2000
  | t + 1 => min (gapT f g m t) (f (ordAt f m (t + 1)) - g (ordAt f m t))
theorem gapT_le (f g : Nat → Int) (m : Nat) {t p : Nat} (hp : p < t) : gapT f g m t ≤ f (ordAt f m (p + 1)) - g (ordAt f m p) := by
  induction t with
  | zero => omega
  | succ t ih =>
    rw [gapT]
    by_cases e : p = t
    · subst e; exact Int.min_le_right _ _
    · exact Int.le_trans (Int.min_le_left _ _) (ih (by omega))
theorem gapT_is (f g : Nat → Int) (m : Nat) (t : Nat) : gapT f g m t = 2000 ∨ ∃ p, p < t ∧ gapT f g m t = f (ordAt f m (p + 1)) - g (ordAt f m p) := by
  induction t with
  | zero => exact .inl rfl
  | succ t ih =>
    rw [gapT]
    rcases Int.le_total (gapT f g m t) (f (ordAt f m (t + 1)) - g (ordAt f m t)) with h | h
    · rw [Int.min_eq_left h]
      rcases ih with h1 | ⟨p, hp, e⟩
      · exact .inl h1
      · exact .inr ⟨p, by omega, e⟩
    · rw [Int.min_eq_right h]; exact .inr ⟨t, by omega, rfl⟩
theorem Sec.gap_bd (h : Sec f g m) {t : Nat} (ht : t < m) : 0 ≤ gapT f g m t ∧ gapT f g m t ≤ 2000 := by
  induction t with
  | zero => simp [gapT]
  | succ t ih =>
    have h1 := ih (by omega)
    have h2 := h.step (p := t) (q := t + 1) (by omega) ht
    rw [gapT]
    omega
/-- No two trains are nearer than the gap. -/
theorem Sec.gap_low (h : Sec f g m) {i j : Nat} (hi : i < m) (hj : j < m) (hne : i ≠ j) (hd : 0 ≤ f i - g j) : gapT f g m (m - 1) ≤ f i - g j := by
  obtain ⟨p, hp, rfl⟩ := ordAt_ex f hi
  obtain ⟨q, hq, rfl⟩ := ordAt_ex f hj
  have hqp : q < p := by
    rcases Nat.lt_trichotomy q p with a | a | a
    · exact a
    · subst a; exact absurd rfl hne
    · have h1 := h.step a hq
      have h2 := h.pos _ hi
      have h3 := h.pos _ hj
      omega
  obtain ⟨s, rfl⟩ : ∃ s, p = s + 1 := ⟨p - 1, by omega⟩
  have h1 := gapT_le f g m (t := m - 1) (p := s) (by omega)
  have h2 : g (ordAt f m q) ≤ g (ordAt f m s) := by
    by_cases e : q = s
    · subst e; exact Int.le_refl _
    · have h3 := h.step (p := q) (q := s) (by omega) (by omega)
      have h4 := h.pos (ordAt f m s) (ordAt_lt (by omega))
      omega
  omega
/-- Two trains have the gap. -/
theorem Sec.gap_hit (h : Sec f g m) (hm : 2 ≤ m) : ∃ i j, i < m ∧ j < m ∧ i ≠ j ∧ f i - g j = gapT f g m (m - 1) := by
  rcases gapT_is f g m (m - 1) with e | ⟨p, hp, e⟩
  · exfalso
    have h1 := gapT_le f g m (t := m - 1) (p := 0) (by omega)
    have h2 := h.pos (ordAt f m (0 + 1)) (ordAt_lt (by omega))
    have h3 := h.pos (ordAt f m 0) (ordAt_lt (by omega))
    omega
  · refine ⟨ordAt f m (p + 1), ordAt f m p, ordAt_lt (by omega), ordAt_lt (by omega), fun x => ?_, e.symm⟩
    have := ordAt_inj f (i := m) (by omega) (by omega) x
    omega
/-- Times in the section, place by place. -/
def spans (f g : Nat → Int) (m : Nat) : Nat → Int
  | 0 => 0
  | t + 1 => spans f g m t + (g (ordAt f m t) - f (ordAt f m t))
theorem Sec.spans_le (h : Sec f g m) {t : Nat} (ht : t < m) (G : Int) (hG : ∀ p, p < t → G ≤ f (ordAt f m (p + 1)) - g (ordAt f m p)) : spans f g m (t + 1) + G * t ≤ g (ordAt f m t) - f (ordAt f m 0) := by
  induction t with
  | zero => simp [spans]
  | succ t ih =>
    have h1 := ih (by omega) (fun p hp => hG p (by omega))
    have h2 := hG t (by omega)
    have e : spans f g m (t + 1 + 1) = spans f g m (t + 1) + (g (ordAt f m (t + 1)) - f (ordAt f m (t + 1))) := rfl
    have e2 : G * ((t + 1 : Nat) : Int) = G * (t : Int) + G := by rw [Int.natCast_add, Int.mul_add]; simp
    rw [e, e2]
    omega
theorem ins_sum (f h : Nat → Int) (x : Nat) (l : List Nat) : ((ins f x l).map h).sum = h x + (l.map h).sum := by
  induction l with
  | nil => simp [ins]
  | cons y r ih =>
    simp only [ins]
    split
    · simp only [List.map_cons, List.sum_cons, ih]; omega
    · simp
theorem spans_take (f g : Nat → Int) (m : Nat) : ∀ t, t ≤ m → spans f g m t = (((ordN f m).take t).map fun x => g x - f x).sum := by
  intro t
  induction t with
  | zero => intro _; simp [spans]
  | succ t ih =>
    intro ht
    have hl := ord_len f m
    rw [spans, ih (by omega), List.take_succ_eq_append_getElem (by omega), List.map_append, List.sum_append, ordAt_eq (by omega)]
    simp
theorem spans_all (f g : Nat → Int) (m : Nat) : spans f g m m = ((ordN f m).map fun x => g x - f x).sum := by
  rw [spans_take f g m m (Nat.le_refl _), List.take_of_length_le (by rw [ord_len]; exact Nat.le_refl _)]
end
/-- Does a train come ahead of another one in the order? -/
theorem ord_congr {f g : Nat → Int} (m : Nat) (h : ∀ i j, i < m → j < i → (f j < f i ↔ g j < g i)) : ordN f m = ordN g m := by
  have key : ∀ (x : Nat) (l : List Nat), (∀ y ∈ l, (f y < f x ↔ g y < g x)) → ins f x l = ins g x l := by
    intro x l
    induction l with
    | nil => intro _; rfl
    | cons y r ih =>
      intro hl
      simp only [ins]
      have h1 := hl y (by simp)
      rw [ih (fun z hz => hl z (by simp [hz]))]
      by_cases hh : f y < f x
      · rw [if_pos hh, if_pos (h1.1 hh)]
      · rw [if_neg hh, if_neg (fun k => hh (h1.2 k))]
  induction m with
  | zero => rfl
  | succ m ih =>
    rw [ordN, ordN, ← ih (fun i j hi hj => h i j (by omega) hj)]
    exact key m _ fun y hy => h m y (by omega) ((ord_mem f m y).1 hy)
theorem ord_lt_iff {f : Nat → Int} {m : Nat} (hd : ∀ a b, a < m → b < m → a ≠ b → f a ≠ f b) {p q : Nat} (hp : p < m) (hq : q < m) : f (ordAt f m p) < f (ordAt f m q) ↔ p < q := by
  constructor
  · intro h
    rcases Nat.lt_trichotomy p q with a | a | a
    · exact a
    · subst a; omega
    · have := ord_mono f m a hp; omega
  · intro h
    have h1 := ord_mono f m h hq
    have h2 := hd _ _ (ordAt_lt (f := f) hp) (ordAt_lt (f := f) hq) (fun e => by have := ordAt_inj f hp hq e; omega)
    omega
/-- The order tells who comes first. -/
theorem lt_of_ord {f g : Nat → Int} {m : Nat} (hf : ∀ a b, a < m → b < m → a ≠ b → f a ≠ f b) (hg : ∀ a b, a < m → b < m → a ≠ b → g a ≠ g b) (h : ordN f m = ordN g m) {i j : Nat} (hi : i < m) (hj : j < m) : f i < f j ↔ g i < g j := by
  obtain ⟨p, hp, rfl⟩ := ordAt_ex f hi
  obtain ⟨q, hq, rfl⟩ := ordAt_ex f hj
  rw [ord_lt_iff hf hp hq]
  have e : ∀ t, ordAt f m t = ordAt g m t := fun t => by unfold ordAt; rw [h]
  rw [e p, e q, ord_lt_iff hg hp hq]
end Go.Proofs.Ytjppkcfbhhjniaa
