/-
  Plain facts on rings and books: where a code stands, how many readings a rest has, the fewest codes, the reading. No program in sight.
-/
import Derived.Test.YtanfhgliilkhjaaBkM
namespace Go.Proofs.Ytanfhgliilkhjaa
set_option linter.unusedVariables false

/-- Code d stands at place p of the ring e. -/
def stAt (e : LD) (p : Nat) (d : LD) : Prop := p + d.n ≤ e.n ∧ ∀ i, i < d.n → e.f (p + i) = d.f i
instance (e : LD) (p : Nat) (d : LD) : Decidable (stAt e p d) := by unfold stAt; exact inferInstance
/-- A function by its values at lesser numbers. -/
def tab {α : Type} (a : α) (G : Nat → (Nat → α) → α) : Nat → Nat → α
  | 0 => fun _ => a
  | k + 1 => fun j => if j = k then G k (tab a G k) else tab a G k j
def rec_ {α : Type} (a : α) (G : Nat → (Nat → α) → α) (k : Nat) : α := tab a G (k + 1) k
theorem tab_eq {α : Type} (a : α) (G : Nat → (Nat → α) → α) {j k : Nat} (h : j < k) : tab a G k j = rec_ a G j := by
  induction k with
  | zero => omega
  | succ k ih =>
    by_cases e : j = k
    · subst e; rfl
    · show (if j = k then _ else _) = _
      rw [if_neg e]; exact ih (by omega)
theorem rec_eq {α : Type} (a : α) (G : Nat → (Nat → α) → α) (hG : ∀ k F F', (∀ j, j < k → F j = F' j) → G k F = G k F') (k : Nat) : rec_ a G k = G k (rec_ a G) := by
  show (if k = k then G k (tab a G k) else _) = _
  rw [if_pos rfl]
  exact hG k _ _ fun j hj => tab_eq a G hj
/-- The sum over the first i codes that stand ahead of the last k groups. -/
def smW (e : LD) (D : Nat → LD) (k : Nat) (wy : Nat → Nat) : Nat → Nat
  | 0 => 0
  | i + 1 => smW e D k wy i + if stAt e (e.n - k) (D i) then wy (k - max 1 (D i).n) else 0
theorem smW_congr {e : LD} {D : Nat → LD} {k : Nat} {wy wy' : Nat → Nat} (hk : 0 < k) (h : ∀ j, j < k → wy j = wy' j) (i : Nat) : smW e D k wy i = smW e D k wy' i := by
  induction i with
  | zero => rfl
  | succ i ih => show _ + _ = _ + _; rw [ih, h (k - max 1 (D i).n) (by omega)]
/-- How many readings the last k groups have. -/
def ways (e : LD) (D : Nat → LD) (m : Nat) : Nat → Nat := rec_ 0 fun k wy => if k = 0 then 1 else smW e D k wy m
theorem ways_zero (e : LD) (D : Nat → LD) (m : Nat) : ways e D m 0 = 1 := rfl
theorem ways_pos {e : LD} {D : Nat → LD} {m k : Nat} (hk : 0 < k) : ways e D m k = smW e D k (ways e D m) m := by
  unfold ways
  rw [rec_eq]
  · rw [if_neg (by omega)]
  · intro k F F' h
    by_cases e : k = 0
    · rw [if_pos e, if_pos e]
    · rw [if_neg e, if_neg e]; exact smW_congr (by omega) h _
/-- The fewest codes over the first i codes that stand there. -/
def mnF (e : LD) (D : Nat → LD) (k : Nat) (fw : Nat → Nat) : Nat → Nat
  | 0 => 1000
  | i + 1 => if stAt e (e.n - k) (D i) then min (mnF e D k fw i) (fw (k - max 1 (D i).n) + 1) else mnF e D k fw i
theorem mnF_congr {e : LD} {D : Nat → LD} {k : Nat} {fw fw' : Nat → Nat} (hk : 0 < k) (h : ∀ j, j < k → fw j = fw' j) (i : Nat) : mnF e D k fw i = mnF e D k fw' i := by
  induction i with
  | zero => rfl
  | succ i ih => show (if _ then _ else _) = (if _ then _ else _); rw [ih, h (k - max 1 (D i).n) (by omega)]
/-- The fewest codes that make the last k groups; 1000: none do. -/
def few (e : LD) (D : Nat → LD) (m : Nat) : Nat → Nat := rec_ 0 fun k fw => if k = 0 then 0 else mnF e D k fw m
theorem few_zero (e : LD) (D : Nat → LD) (m : Nat) : few e D m 0 = 0 := rfl
theorem few_pos {e : LD} {D : Nat → LD} {m k : Nat} (hk : 0 < k) : few e D m k = mnF e D k (few e D m) m := by
  unfold few
  rw [rec_eq]
  · rw [if_neg (by omega)]
  · intro k F F' h
    by_cases e : k = 0
    · rw [if_pos e, if_pos e]
    · rw [if_neg e, if_neg e]; exact mnF_congr (by omega) h _
/-- The first of the codes that lead to the fewest. -/
def ixF (e : LD) (D : Nat → LD) (k : Nat) (fw : Nat → Nat) : Nat → Nat
  | 0 => 0
  | i + 1 => if stAt e (e.n - k) (D i) ∧ fw (k - max 1 (D i).n) + 1 < mnF e D k fw i then i else ixF e D k fw i
def ix (e : LD) (D : Nat → LD) (m k : Nat) : Nat := ixF e D k (few e D m) m
/-- The reading of the last k groups. -/
def rdg (e : LD) (D : Nat → LD) (m : Nat) : Nat → List Nat := rec_ [] fun k rd => if k = 0 then [] else ix e D m k :: rd (k - max 1 (D (ix e D m k)).n)
theorem rdg_zero (e : LD) (D : Nat → LD) (m : Nat) : rdg e D m 0 = [] := rfl
theorem rdg_pos {e : LD} {D : Nat → LD} {m k : Nat} (hk : 0 < k) : rdg e D m k = ix e D m k :: rdg e D m (k - max 1 (D (ix e D m k)).n) := by
  unfold rdg
  rw [rec_eq]
  · rw [if_neg (by omega)]
  · intro k F F' h
    by_cases e : k = 0
    · rw [if_pos e, if_pos e]
    · rw [if_neg e, if_neg e]; rw [h _ (by omega)]
theorem mnF_succ (e : LD) (D : Nat → LD) (k : Nat) (fw : Nat → Nat) (i : Nat) : mnF e D k fw (i + 1) = if stAt e (e.n - k) (D i) then min (mnF e D k fw i) (fw (k - max 1 (D i).n) + 1) else mnF e D k fw i := rfl
theorem mnF_le (e : LD) (D : Nat → LD) (k : Nat) (fw : Nat → Nat) (i : Nat) : mnF e D k fw i ≤ 1000 := by
  induction i with
  | zero => exact Nat.le_refl _
  | succ i ih => rw [mnF_succ]; split <;> omega
theorem few_le (e : LD) (D : Nat → LD) (m k : Nat) : few e D m k ≤ 1000 := by
  by_cases h : k = 0
  · subst h; rw [few_zero]; omega
  · rw [few_pos (by omega)]; exact mnF_le _ _ _ _ _
/-- Each code that stands there leads to no fewer. -/
theorem mnF_min {e : LD} {D : Nat → LD} {k i t : Nat} {fw : Nat → Nat} (ht : t < i) (h : stAt e (e.n - k) (D t)) : mnF e D k fw i ≤ fw (k - max 1 (D t).n) + 1 := by
  induction i with
  | zero => omega
  | succ i ih =>
    rw [mnF_succ]
    by_cases e1 : t = i
    · subst e1; rw [if_pos h]; omega
    · have := ih (by omega)
      split <;> omega
/-- The index is that of the first code that leads to the fewest. -/
theorem ixF_spec {e : LD} {D : Nat → LD} {k i : Nat} {fw : Nat → Nat} (h : mnF e D k fw i < 1000) : ixF e D k fw i < i ∧ stAt e (e.n - k) (D (ixF e D k fw i)) ∧ fw (k - max 1 (D (ixF e D k fw i)).n) + 1 = mnF e D k fw i ∧ ∀ t, t < ixF e D k fw i → stAt e (e.n - k) (D t) → mnF e D k fw i < fw (k - max 1 (D t).n) + 1 := by
  induction i with
  | zero => exact absurd h (by show ¬ (1000 < 1000); omega)
  | succ i ih =>
    have hm : mnF e D k fw (i + 1) = if stAt e (e.n - k) (D i) then min (mnF e D k fw i) (fw (k - max 1 (D i).n) + 1) else mnF e D k fw i := rfl
    have hx : ixF e D k fw (i + 1) = if stAt e (e.n - k) (D i) ∧ fw (k - max 1 (D i).n) + 1 < mnF e D k fw i then i else ixF e D k fw i := rfl
    by_cases hs : stAt e (e.n - k) (D i)
    · rw [if_pos hs] at hm
      by_cases hl : fw (k - max 1 (D i).n) + 1 < mnF e D k fw i
      · rw [if_pos ⟨hs, hl⟩] at hx
        rw [hx, hm]
        refine ⟨by omega, hs, by omega, fun t ht hst => ?_⟩
        have := mnF_min (fw := fw) ht hst
        omega
      · rw [if_neg (fun x => hl x.2)] at hx
        have hm2 : mnF e D k fw (i + 1) = mnF e D k fw i := by omega
        obtain ⟨h1, h2, h3, h4⟩ := ih (by omega)
        rw [hx, hm2]
        exact ⟨by omega, h2, h3, h4⟩
    · rw [if_neg hs] at hm
      rw [if_neg (fun x => hs x.1)] at hx
      obtain ⟨h1, h2, h3, h4⟩ := ih (by omega)
      rw [hx, hm]
      exact ⟨by omega, h2, h3, h4⟩
theorem ix_spec {e : LD} {D : Nat → LD} {m k : Nat} (hk : 0 < k) (h : few e D m k < 1000) : ix e D m k < m ∧ stAt e (e.n - k) (D (ix e D m k)) ∧ few e D m (k - max 1 (D (ix e D m k)).n) + 1 = few e D m k ∧ ∀ t, t < ix e D m k → stAt e (e.n - k) (D t) → few e D m k < few e D m (k - max 1 (D t).n) + 1 := by
  rw [few_pos hk] at h
  have := ixF_spec h
  rw [← few_pos hk] at this
  exact this
theorem few_min {e : LD} {D : Nat → LD} {m k t : Nat} (hk : 0 < k) (ht : t < m) (h : stAt e (e.n - k) (D t)) : few e D m k ≤ few e D m (k - max 1 (D t).n) + 1 := by
  rw [few_pos hk]; exact mnF_min ht h
/-- As many codes as groups at most. -/
theorem few_k {e : LD} {D : Nat → LD} {m : Nat} : ∀ k, few e D m k < 1000 → few e D m k ≤ k := by
  intro k
  induction k using Nat.strongRecOn with
  | _ k ih =>
    intro h
    by_cases h0 : k = 0
    · subst h0; rw [few_zero]; omega
    · obtain ⟨h1, h2, h3, h4⟩ := ix_spec (by omega) h
      have := ih (k - max 1 (D (ix e D m k)).n) (by omega) (by omega)
      omega
theorem rdg_len {e : LD} {D : Nat → LD} {m : Nat} : ∀ k, few e D m k < 1000 → (rdg e D m k).length = few e D m k := by
  intro k
  induction k using Nat.strongRecOn with
  | _ k ih =>
    intro h
    by_cases h0 : k = 0
    · subst h0; rfl
    · obtain ⟨h1, h2, h3, h4⟩ := ix_spec (by omega) h
      rw [rdg_pos (by omega), List.length_cons, ih _ (by omega) (by omega)]
      omega
theorem rdg_lt {e : LD} {D : Nat → LD} {m : Nat} : ∀ k, few e D m k < 1000 → ∀ i ∈ rdg e D m k, i < m := by
  intro k
  induction k using Nat.strongRecOn with
  | _ k ih =>
    intro h
    by_cases h0 : k = 0
    · subst h0; intro i hi; cases hi
    · obtain ⟨h1, h2, h3, h4⟩ := ix_spec (by omega) h
      rw [rdg_pos (by omega)]
      intro i hi
      rcases List.mem_cons.1 hi with rfl | hi
      · exact h1
      · exact ih _ (by omega) (by omega) i hi
/-- There is a reading if and only if some codes make it. -/
theorem smW_pos {e : LD} {D : Nat → LD} {k i : Nat} {wy : Nat → Nat} : 1 ≤ smW e D k wy i ↔ ∃ t, t < i ∧ stAt e (e.n - k) (D t) ∧ 1 ≤ wy (k - max 1 (D t).n) := by
  induction i with
  | zero => exact ⟨fun h => absurd h (by show ¬ (1 ≤ 0); omega), fun ⟨t, h, _⟩ => absurd h (by omega)⟩
  | succ i ih =>
    have hs : smW e D k wy (i + 1) = smW e D k wy i + if stAt e (e.n - k) (D i) then wy (k - max 1 (D i).n) else 0 := rfl
    constructor
    · intro h
      by_cases h1 : 1 ≤ smW e D k wy i
      · obtain ⟨t, a, b, c⟩ := ih.1 h1
        exact ⟨t, by omega, b, c⟩
      · by_cases h2 : stAt e (e.n - k) (D i)
        · rw [if_pos h2] at hs; exact ⟨i, by omega, h2, by omega⟩
        · rw [if_neg h2] at hs; omega
    · rintro ⟨t, a, b, c⟩
      by_cases h1 : t = i
      · subst h1; rw [hs, if_pos b]; omega
      · have := ih.2 ⟨t, by omega, b, c⟩; omega
theorem mnF_pos {e : LD} {D : Nat → LD} {k i : Nat} {fw : Nat → Nat} (h : mnF e D k fw i < 1000) : ∃ t, t < i ∧ stAt e (e.n - k) (D t) ∧ fw (k - max 1 (D t).n) + 1 < 1000 := by
  obtain ⟨a, b, c, _⟩ := ixF_spec h
  exact ⟨_, a, b, by omega⟩
theorem ways_few {e : LD} {D : Nat → LD} {m : Nat} : ∀ k, k ≤ 900 → (1 ≤ ways e D m k ↔ few e D m k < 1000) := by
  intro k
  induction k using Nat.strongRecOn with
  | _ k ih =>
    intro hk
    by_cases h0 : k = 0
    · subst h0; rw [ways_zero, few_zero]; omega
    · rw [ways_pos (by omega), smW_pos]
      constructor
      · rintro ⟨t, a, b, c⟩
        have h1 := (ih (k - max 1 (D t).n) (by omega) (by omega)).1 c
        have h2 := few_k _ h1
        have := few_min (e := e) (D := D) (m := m) (k := k) (by omega) a b
        omega
      · intro h
        obtain ⟨a, b, c, _⟩ := ix_spec (by omega) h
        exact ⟨_, a, b, (ih _ (by omega) (by omega)).2 (by omega)⟩
/-- No overflow: codes of one length that stand at one place are the same. -/
def usd (e : LD) (D : Nat → LD) (k i L : Nat) : Prop := ∃ t, t < i ∧ stAt e (e.n - k) (D t) ∧ (D t).n = L
theorem stAt_same {e c d : LD} {p : Nat} (h1 : stAt e p c) (h2 : stAt e p d) (h : c.n = d.n) : sameC c d := ⟨h, fun i hi => by rw [← h1.2 i hi, ← h2.2 i (by omega)]⟩
theorem smW_bd {e : LD} {D : Nat → LD} {m k M : Nat} (hb : bookV D m) (hk : 1 ≤ k) {wy : Nat → Nat} (hw : ∀ j, j < k → wy j ≤ M) : ∀ i, i ≤ m → ∃ a1 a2 a3 a4 a5 : Nat, smW e D k wy i ≤ a1 * M + a2 * M + a3 * M + a4 * M + a5 * M ∧ (a1 ≤ 1 ∧ a2 ≤ 1 ∧ a3 ≤ 1 ∧ a4 ≤ 1 ∧ a5 ≤ 1) ∧ (a1 = 1 → usd e D k i 1) ∧ (a2 = 1 → usd e D k i 2) ∧ (a3 = 1 → usd e D k i 3) ∧ (a4 = 1 → usd e D k i 4) ∧ (a5 = 1 → usd e D k i 5) := by
  intro i
  induction i with
  | zero => intro _; exact ⟨0, 0, 0, 0, 0, by show 0 ≤ _; omega, by omega, by omega, by omega, by omega, by omega, by omega⟩
  | succ i ih =>
    intro hi
    obtain ⟨a1, a2, a3, a4, a5, hs, hle, u1, u2, u3, u4, u5⟩ := ih (by omega)
    have hup : ∀ L, usd e D k i L → usd e D k (i + 1) L := fun L ⟨t, x, y⟩ => ⟨t, by omega, y⟩
    have hS : smW e D k wy (i + 1) = smW e D k wy i + if stAt e (e.n - k) (D i) then wy (k - max 1 (D i).n) else 0 := rfl
    by_cases h : stAt e (e.n - k) (D i)
    · rw [if_pos h] at hS
      have hc := (hb.2 i (by omega)).1.1
      have hno : ∀ L, usd e D k i L → (D i).n ≠ L := fun L ⟨t, x, y, z⟩ eq => (hb.2 i (by omega)).2 t x (stAt_same y h (by omega))
      have hwi := hw (k - max 1 (D i).n) (by omega)
      have hme : usd e D k (i + 1) (D i).n := ⟨i, by omega, h, rfl⟩
      have hn : (D i).n = 1 ∨ (D i).n = 2 ∨ (D i).n = 3 ∨ (D i).n = 4 ∨ (D i).n = 5 := by omega
      rcases hn with e1 | e1 | e1 | e1 | e1 <;> rw [e1] at hwi hme hS
      · have h0 : a1 = 0 := by
          rcases Nat.lt_or_ge 0 a1 with x | x
          · exact absurd e1 (hno 1 (u1 (by omega)))
          · omega
        subst h0
        exact ⟨1, a2, a3, a4, a5, by omega, by omega, fun _ => hme, fun x => hup _ (u2 x), fun x => hup _ (u3 x), fun x => hup _ (u4 x), fun x => hup _ (u5 x)⟩
      · have h0 : a2 = 0 := by
          rcases Nat.lt_or_ge 0 a2 with x | x
          · exact absurd e1 (hno 2 (u2 (by omega)))
          · omega
        subst h0
        exact ⟨a1, 1, a3, a4, a5, by omega, by omega, fun x => hup _ (u1 x), fun _ => hme, fun x => hup _ (u3 x), fun x => hup _ (u4 x), fun x => hup _ (u5 x)⟩
      · have h0 : a3 = 0 := by
          rcases Nat.lt_or_ge 0 a3 with x | x
          · exact absurd e1 (hno 3 (u3 (by omega)))
          · omega
        subst h0
        exact ⟨a1, a2, 1, a4, a5, by omega, by omega, fun x => hup _ (u1 x), fun x => hup _ (u2 x), fun _ => hme, fun x => hup _ (u4 x), fun x => hup _ (u5 x)⟩
      · have h0 : a4 = 0 := by
          rcases Nat.lt_or_ge 0 a4 with x | x
          · exact absurd e1 (hno 4 (u4 (by omega)))
          · omega
        subst h0
        exact ⟨a1, a2, a3, 1, a5, by omega, by omega, fun x => hup _ (u1 x), fun x => hup _ (u2 x), fun x => hup _ (u3 x), fun _ => hme, fun x => hup _ (u5 x)⟩
      · have h0 : a5 = 0 := by
          rcases Nat.lt_or_ge 0 a5 with x | x
          · exact absurd e1 (hno 5 (u5 (by omega)))
          · omega
        subst h0
        exact ⟨a1, a2, a3, a4, 1, by omega, by omega, fun x => hup _ (u1 x), fun x => hup _ (u2 x), fun x => hup _ (u3 x), fun x => hup _ (u4 x), fun _ => hme⟩
    · rw [if_neg h] at hS
      exact ⟨a1, a2, a3, a4, a5, by omega, hle, fun x => hup _ (u1 x), fun x => hup _ (u2 x), fun x => hup _ (u3 x), fun x => hup _ (u4 x), fun x => hup _ (u5 x)⟩
theorem mul_le1 {a M : Nat} (h : a ≤ 1) : a * M ≤ M := by
  have := Nat.mul_le_mul_right M h; omega
theorem smW_5 {e : LD} {D : Nat → LD} {m k M : Nat} (hb : bookV D m) (hk : 1 ≤ k) {wy : Nat → Nat} (hw : ∀ j, j < k → wy j ≤ M) {i : Nat} (hi : i ≤ m) : smW e D k wy i ≤ 5 * M := by
  obtain ⟨a1, a2, a3, a4, a5, hs, ⟨h1, h2, h3, h4, h5⟩, _⟩ := smW_bd (e := e) hb hk hw i hi
  have := mul_le1 (M := M) h1
  have := mul_le1 (M := M) h2
  have := mul_le1 (M := M) h3
  have := mul_le1 (M := M) h4
  have := mul_le1 (M := M) h5
  omega
theorem ways_5 {e : LD} {D : Nat → LD} {m : Nat} (hb : bookV D m) : ∀ k, ways e D m k ≤ 5 ^ k := by
  intro k
  induction k using Nat.strongRecOn with
  | _ k ih =>
    by_cases h0 : k = 0
    · subst h0; rw [ways_zero]; exact Nat.le_refl _
    · rw [ways_pos (by omega)]
      obtain ⟨j, rfl⟩ : ∃ j, k = j + 1 := ⟨k - 1, by omega⟩
      have := smW_5 (e := e) (k := j + 1) (M := 5 ^ j) hb (by omega) (fun t ht => Nat.le_trans (ih t ht) (Nat.pow_le_pow_right (by omega) (by omega))) (Nat.le_refl m)
      rw [Nat.pow_succ]; omega
theorem pow5 {k : Nat} (h : k ≤ 20) : 5 ^ k ≤ 95367431640625 := Nat.le_trans (Nat.pow_le_pow_right (by omega) h) (by decide)
/-- All partial sums are small. -/
theorem ways_sm {e : LD} {D : Nat → LD} {m k : Nat} (hb : bookV D m) (hk : k ≤ 20) : ways e D m k ≤ 95367431640625 := Nat.le_trans (ways_5 hb k) (pow5 hk)
theorem smW_sm {e : LD} {D : Nat → LD} {m k i : Nat} (hb : bookV D m) (h1 : 1 ≤ k) (hk : k ≤ 20) (hi : i ≤ m) : smW e D k (ways e D m) i ≤ 476837158203125 := by
  have := smW_5 (e := e) (M := 95367431640625) hb h1 (fun j hj => ways_sm (e := e) (D := D) (m := m) hb (show j ≤ 20 by omega)) hi
  omega
end Go.Proofs.Ytanfhgliilkhjaa
