/-
  Plain laws of rings and readings. No program in sight.
-/
import Derived.Test.YtanfhgliilkhjaaBkU
namespace Go.Proofs.Ytanfhgliilkhjaa
set_option linter.unusedVariables false

/-- What a list of indexes rings. -/
def rngL (D : Nat → LD) (l : List Nat) : List Int := l.flatMap fun i => lst (D i).f (D i).n
theorem rngL_cons (D : Nat → LD) (i : Nat) (l : List Nat) : rngL D (i :: l) = lst (D i).f (D i).n ++ rngL D l := by simp [rngL]
theorem rngL_app (D : Nat → LD) (l k : List Nat) : rngL D (l ++ k) = rngL D l ++ rngL D k := by simp [rngL]
theorem rng_eq (D : Nat → LD) (f : Nat → Int) (n : Nat) : rng D f n = rngL D ((List.range n).map fun i => (f i).toNat) := by
  induction n with
  | zero => rfl
  | succ n ih =>
    rw [List.range_succ, List.map_append, rngL_app, ← ih]
    show _ ++ _ = _ ++ rngL D [(f n).toNat]
    simp [rngL]
theorem natI_back (l : List Nat) : ((List.range l.length).map fun i => ((natI l).getD i 0).toNat) = l := by
  apply List.ext_getElem
  · simp
  · intro i h1 h2
    simp [natI, List.getD, h2]
theorem rng_natI (D : Nat → LD) (l : List Nat) : rng D (fun i => (natI l).getD i 0) l.length = rngL D l := by rw [rng_eq, natI_back]
theorem rng_split (D : Nat → LD) (f : Nat → Int) {k n : Nat} (h : k ≤ n) : rng D f n = rng D f k ++ rng D (fun i => f (k + i)) (n - k) := by
  rw [rng_eq, rng_eq, rng_eq, ← rngL_app]
  congr 1
  apply List.ext_getElem
  · simp; omega
  · intro i h1 h2
    simp only [List.getElem_map, List.getElem_range, List.getElem_append, List.length_map, List.length_range]
    split
    · rfl
    · congr 2; omega
/-- A list, as a ring. -/
def ofL (xs : List Int) : LD := ⟨xs.length, fun i => xs.getD i 0⟩
theorem lst_ofL (xs : List Int) : lst (ofL xs).f (ofL xs).n = xs := by
  apply List.ext_getElem
  · rw [lst_len]; rfl
  · intro i h1 h2
    simp [lst, ofL, List.getD, h2]
theorem mem_rngL {D : Nat → LD} {m : Nat} (hb : bookV D m) {l : List Nat} (hl : ∀ i ∈ l, i < m) : ∀ x ∈ rngL D l, 1 ≤ x ∧ x ≤ 6 := by
  intro x hx
  obtain ⟨i, hi, hx⟩ := List.mem_flatMap.1 hx
  obtain ⟨j, hj, rfl⟩ := List.mem_map.1 hx
  exact (hb.2 i (hl i hi)).1.2 j (List.mem_range.1 hj)
theorem ix_lt {f : Nat → Int} {m n : Nat} (h : ∀ i, i < n → 0 ≤ f i ∧ f i < m) : ∀ i ∈ ((List.range n).map fun i => (f i).toNat), i < m := by
  intro i hi
  obtain ⟨j, hj, rfl⟩ := List.mem_map.1 hi
  have := h j (List.mem_range.1 hj)
  omega
theorem grp_ofL {xs : List Int} (h : ∀ x ∈ xs, 1 ≤ x ∧ x ≤ 6) : grpV (ofL xs).n (ofL xs).f := by
  intro i hi
  have hi : i < xs.length := hi
  show 1 ≤ xs.getD i 0 ∧ _
  have : xs.getD i 0 = xs[i] := by simp [List.getD, hi]
  show 1 ≤ xs.getD i 0 ∧ xs.getD i 0 ≤ 6
  rw [this]
  exact h _ (List.getElem_mem hi)
/-- A code that stands at the head of the last k groups. -/
theorem st_split {E d : LD} {k : Nat} (hk : k ≤ E.n) (h : stAt E (E.n - k) d) : d.n ≤ k ∧ lst (rst E k) k = lst d.f d.n ++ lst (rst E (k - d.n)) (k - d.n) := by
  obtain ⟨h1, h2⟩ := (stAt_rst hk).1 h
  refine ⟨h1, ?_⟩
  apply List.ext_getElem
  · simp [lst]; omega
  · intro i a b
    simp only [lst, List.getElem_map, List.getElem_range, List.getElem_append, List.length_map, List.length_range]
    split
    · rename_i hi; exact h2 i hi
    · rename_i hi
      show E.f (E.n - k + i) = E.f (E.n - (k - d.n) + (i - d.n))
      congr 1
      omega
theorem st_of {E d : LD} {k : Nat} {r : List Int} (hk : k ≤ E.n) (h : lst (rst E k) k = lst d.f d.n ++ r) : stAt E (E.n - k) d := by
  have hl := congrArg List.length h
  rw [List.length_append, lst_len, lst_len] at hl
  refine (stAt_rst hk).2 ⟨by omega, fun i hi => ?_⟩
  have hik : i < k := by omega
  have h1 : (lst (rst E k) k)[i]? = some (rst E k i) := by simp [lst, hik]
  have h2 : (lst d.f d.n ++ r)[i]? = some (d.f i) := by
    rw [List.getElem?_append_left (by rw [lst_len]; exact hi)]
    simp [lst, hi]
  rw [h, h2] at h1
  injection h1 with h1
  exact h1.symm
theorem parse_few {E : LD} {D : Nat → LD} {m : Nat} (hD : ∀ i, i < m → 1 ≤ (D i).n) : ∀ (l : List Nat) (k : Nat), (∀ i ∈ l, i < m) → k ≤ E.n → rngL D l = lst (rst E k) k → few E D m k ≤ l.length := by
  intro l
  induction l with
  | nil =>
    intro k _ hk h
    have : k = 0 := by have := congrArg List.length h; rw [lst_len] at this; simpa [rngL] using this.symm
    subst this
    rw [few_zero]; exact Nat.zero_le _
  | cons i l ih =>
    intro k hl hk h
    rw [rngL_cons] at h
    have hst := st_of hk h.symm
    obtain ⟨h1, h2⟩ := st_split hk hst
    have hn := hD i (hl i (by simp))
    have h3 : rngL D l = lst (rst E (k - (D i).n)) (k - (D i).n) := by
      rw [h2] at h
      exact List.append_cancel_left h
    have := ih _ (fun j hj => hl j (by simp [hj])) (by omega) h3
    have h4 := few_min (e := E) (D := D) (m := m) (k := k) (by omega) (hl i (by simp)) hst
    rw [show max 1 (D i).n = (D i).n by omega] at h4
    rw [List.length_cons]
    omega
theorem rdg_ring {E : LD} {D : Nat → LD} {m : Nat} (hD : ∀ i, i < m → 1 ≤ (D i).n) : ∀ k, k ≤ E.n → few E D m k < 1000 → rngL D (rdg E D m k) = lst (rst E k) k := by
  intro k
  induction k using Nat.strongRecOn with
  | _ k ih =>
    intro hk h
    by_cases h0 : k = 0
    · subst h0; rfl
    · obtain ⟨h1, h2, h3, _⟩ := ix_spec (by omega) h
      have hn := hD _ h1
      have hm : max 1 (D (ix E D m k)).n = (D (ix E D m k)).n := by omega
      obtain ⟨h5, h6⟩ := st_split hk h2
      rw [hm] at h3
      rw [rdg_pos (by omega), rngL_cons, hm, ih _ (by omega) (by omega) (by omega), h6]
theorem rst_whole (xs : List Int) : lst (rst (ofL xs) xs.length) xs.length = xs := by
  have h := rst_all (ofL xs)
  have : rst (ofL xs) xs.length = (ofL xs).f := h
  rw [this]
  exact lst_ofL xs
/-- What is rung can be read. -/
theorem ring_read {D : Nat → LD} {m n : Nat} {f : Nat → Int} (h : ringV D m n f) (hn : n ≤ 900) : readV (ofL (rng D f n)) D m ∧ few (ofL (rng D f n)) D m (rng D f n).length ≤ n ∧ rngL D (rdg (ofL (rng D f n)) D m (rng D f n).length) = rng D f n ∧ 1 ≤ ways (ofL (rng D f n)) D m (rng D f n).length := by
  obtain ⟨hb, hi, hl⟩ := h
  have hD : ∀ i, i < m → 1 ≤ (D i).n := fun i hi => (hb.2 i hi).1.1.1
  have hix := ix_lt hi
  have hmem := mem_rngL hb hix
  rw [← rng_eq] at hmem
  have hf := parse_few (E := ofL (rng D f n)) hD _ (rng D f n).length hix (Nat.le_refl _) (by rw [← rng_eq, rst_whole])
  rw [List.length_map, List.length_range] at hf
  have hlt : few (ofL (rng D f n)) D m (rng D f n).length < 1000 := by omega
  refine ⟨⟨⟨hb, hl, grp_ofL hmem⟩, hlt⟩, hf, ?_, (ways_few _ (by omega)).2 hlt⟩
  have := rdg_ring (E := ofL (rng D f n)) hD (rng D f n).length (Nat.le_refl _) hlt
  rw [rst_whole] at this
  exact this
end Go.Proofs.Ytanfhgliilkhjaa
