/-
  Plain: the least free time of a section; the order of trains; going on behind all trains that are in the way.
-/
import Derived.Test.YtjppkcfbhhjniaaPathP
namespace Go.Proofs.Ytjppkcfbhhjniaa
open Go.RowKit

/-- Does a train from t on, for run minutes, meet another one? -/
def hit (f g : Nat → Int) (m : Nat) (run t : Int) : Prop := ∃ i, i < m ∧ t < g i ∧ f i < t + run
def IsFree (f g : Nat → Int) (m : Nat) (frm run v : Int) (ok : Bool) : Prop :=
  (ok = true ∧ frm ≤ v ∧ v + run ≤ 2000 ∧ ¬ hit f g m run v ∧ ∀ s, frm ≤ s → s < v → hit f g m run s) ∨ (ok = false ∧ v = 0 ∧ ∀ s, frm ≤ s → s + run ≤ 2000 → hit f g m run s)
theorem IsFree.eq {f g : Nat → Int} {m : Nat} {frm run v u : Int} {a b : Bool} (h : IsFree f g m frm run v a) (k : IsFree f g m frm run u b) : v = u ∧ a = b := by
  rcases h with ⟨rfl, h1, h2, h3, h4⟩ | ⟨rfl, h1, h2⟩ <;> rcases k with ⟨rfl, k1, k2, k3, k4⟩ | ⟨rfl, k1, k2⟩
  · refine ⟨?_, rfl⟩
    rcases Int.lt_trichotomy v u with h | h | h
    · exact absurd (k4 v h1 h) h3
    · exact h
    · exact absurd (h4 u k1 h) k3
  · exact absurd (k2 v h1 h2) h3
  · exact absurd (h2 u k1 k2) k3
  · exact ⟨h1.trans k1.symm, rfl⟩
theorem isFree_ex (f g : Nat → Int) (m : Nat) (frm run : Int) : ∃ v ok, IsFree f g m frm run v ok := by
  have key : ∀ j : Nat, (∀ s, frm ≤ s → s < frm + j → hit f g m run s) ∨ ∃ v, frm ≤ v ∧ ¬ hit f g m run v ∧ ∀ s, frm ≤ s → s < v → hit f g m run s := by
    intro j
    induction j with
    | zero => exact .inl fun s h1 h2 => by omega
    | succ j ih =>
      rcases ih with h | h
      · rcases Classical.em (hit f g m run (frm + j)) with hh | hh
        · refine .inl fun s h1 h2 => ?_
          by_cases e : s = frm + j
          · subst e; exact hh
          · exact h s h1 (by omega)
        · exact .inr ⟨frm + j, by omega, hh, fun s h1 h2 => h s h1 (by omega)⟩
      · exact .inr h
  rcases key (2001 - run - frm).toNat with h | ⟨v, h1, h2, h3⟩
  · exact ⟨0, false, .inr ⟨rfl, rfl, fun s h1 h2 => h s h1 (by omega)⟩⟩
  · by_cases hv : v + run ≤ 2000
    · exact ⟨v, true, .inl ⟨rfl, h1, hv, h2, h3⟩⟩
    · exact ⟨0, false, .inr ⟨rfl, rfl, fun s h4 h5 => h3 s h4 (by omega)⟩⟩
/-- A train's place in an order. -/
def ins (f : Nat → Int) (x : Nat) : List Nat → List Nat
  | [] => [x]
  | y :: r => if f y < f x then y :: ins f x r else x :: y :: r
def ordN (f : Nat → Int) : Nat → List Nat
  | 0 => []
  | i + 1 => ins f i (ordN f i)
theorem ins_at (f : Nat → Int) (x : Nat) (l : List Nat) : ∀ (p : Nat), p ≤ l.length → (∀ j (h : j < l.length), j < p → f l[j] < f x) → (∀ h : p < l.length, ¬ f l[p] < f x) → ins f x l = l.take p ++ x :: l.drop p := by
  induction l with
  | nil => intro p h1 h2 h3; simp [ins]
  | cons y r ih =>
    intro p h1 h2 h3
    cases p with
    | zero => have := h3 (by simp); simp only [List.getElem_cons_zero] at this; simp [ins, this]
    | succ p =>
      have h := h2 0 (by simp) (by omega)
      simp only [List.getElem_cons_zero] at h
      simp only [ins, if_pos h, List.take_succ_cons, List.drop_succ_cons, List.cons_append]
      rw [ih p (by simpa using h1) (fun j hj hp => by have := h2 (j + 1) (by simpa using hj) (by omega); simpa using this) (fun hp => by have := h3 (by simpa using hp); simpa using this)]
theorem ins_len (f : Nat → Int) (x : Nat) (l : List Nat) : (ins f x l).length = l.length + 1 := by
  induction l with
  | nil => rfl
  | cons y r ih => simp only [ins]; split <;> simp [ih]
theorem ins_mem (f : Nat → Int) (x z : Nat) (l : List Nat) : z ∈ ins f x l ↔ z = x ∨ z ∈ l := by
  induction l with
  | nil => simp [ins]
  | cons y r ih =>
    simp only [ins]
    split
    · simp only [List.mem_cons, ih]
      constructor
      · rintro (h | h | h)
        · exact .inr (.inl h)
        · exact .inl h
        · exact .inr (.inr h)
      · rintro (h | h | h)
        · exact .inr (.inl h)
        · exact .inl h
        · exact .inr (.inr h)
    · simp
theorem ins_sorted (f : Nat → Int) (x : Nat) (l : List Nat) (h : l.Pairwise fun a b => f a ≤ f b) : (ins f x l).Pairwise fun a b => f a ≤ f b := by
  induction l with
  | nil => simp [ins]
  | cons y r ih =>
    rw [List.pairwise_cons] at h
    simp only [ins]
    split
    · rename_i hlt
      rw [List.pairwise_cons]
      refine ⟨fun z hz => ?_, ih h.2⟩
      rcases (ins_mem f x z r).1 hz with rfl | hz
      · omega
      · exact h.1 z hz
    · rename_i hlt
      rw [List.pairwise_cons]
      refine ⟨fun z hz => ?_, List.pairwise_cons.2 h⟩
      rcases List.mem_cons.1 hz with rfl | hz
      · omega
      · have := h.1 z hz; omega
theorem ord_len (f : Nat → Int) (i : Nat) : (ordN f i).length = i := by
  induction i with
  | zero => rfl
  | succ i ih => rw [ordN, ins_len, ih]
theorem ord_mem (f : Nat → Int) (i z : Nat) : z ∈ ordN f i ↔ z < i := by
  induction i with
  | zero => simp [ordN]
  | succ i ih => rw [ordN, ins_mem, ih]; omega
theorem ord_sorted (f : Nat → Int) (i : Nat) : (ordN f i).Pairwise fun a b => f a ≤ f b := by
  induction i with
  | zero => simp [ordN]
  | succ i ih => exact ins_sorted f i _ ih
theorem ord_lt (f : Nat → Int) (i : Nat) {j : Nat} (h : j < (ordN f i).length) : (ordN f i)[j] < i := (ord_mem f i _).1 (List.getElem_mem h)
/-- Behind all trains that are in the way. -/
def freeGo (f g : Nat → Int) (run : Int) : Int → List Nat → Int
  | t, [] => t
  | t, x :: r => if t < g x ∧ f x < t + run then freeGo f g run (g x) r else freeGo f g run t r
theorem freeGo_stay (f g : Nat → Int) (run : Int) (l : List Nat) : ∀ t, (∀ x ∈ l, t + run ≤ f x) → freeGo f g run t l = t := by
  induction l with
  | nil => intro t h; rfl
  | cons x r ih =>
    intro t h
    have hx := h x (by simp)
    rw [freeGo, if_neg (by omega)]
    exact ih t fun y hy => h y (by simp [hy])
theorem freeGo_facts (f g : Nat → Int) (run : Int) (l : List Nat) (hs : l.Pairwise fun a b => f a ≤ f b) : ∀ t, t ≤ freeGo f g run t l ∧ (∀ x ∈ l, g x ≤ freeGo f g run t l ∨ freeGo f g run t l + run ≤ f x) ∧ ∀ s, t ≤ s → s < freeGo f g run t l → ∃ x ∈ l, s < g x ∧ f x < s + run := by
  induction l with
  | nil =>
    intro t
    simp only [freeGo]
    refine ⟨Int.le_refl _, ?_, ?_⟩
    · intro x hx; cases hx
    · intro s h1 h2; omega
  | cons x r ih =>
    rw [List.pairwise_cons] at hs
    intro t
    rw [freeGo]
    split
    · rename_i hc
      obtain ⟨h1, h2, h3⟩ := ih hs.2 (g x)
      refine ⟨by omega, fun y hy => ?_, fun s k1 k2 => ?_⟩
      · rcases List.mem_cons.1 hy with rfl | hy
        · exact .inl h1
        · exact h2 y hy
      · by_cases hk : g x ≤ s
        · obtain ⟨y, hy, h4⟩ := h3 s hk k2; exact ⟨y, by simp [hy], h4⟩
        · exact ⟨x, by simp, by omega, by omega⟩
    · rename_i hc
      obtain ⟨h1, h2, h3⟩ := ih hs.2 t
      refine ⟨h1, fun y hy => ?_, fun s k1 k2 => ?_⟩
      · rcases List.mem_cons.1 hy with rfl | hy
        · by_cases hk : g y ≤ t
          · exact .inl (by omega)
          · have e := freeGo_stay f g run r t fun z hz => by have := hs.1 z hz; omega
            rw [e]; exact .inr (by omega)
        · exact h2 y hy
      · obtain ⟨y, hy, h4⟩ := h3 s k1 k2; exact ⟨y, by simp [hy], h4⟩
theorem freeGo_bd (f g : Nat → Int) (run : Int) (l : List Nat) (hg : ∀ x ∈ l, 0 ≤ g x ∧ g x ≤ 2000) : ∀ t, 0 ≤ t → t ≤ 2000 → 0 ≤ freeGo f g run t l ∧ freeGo f g run t l ≤ 2000 := by
  induction l with
  | nil => intro t h0 h; exact ⟨h0, h⟩
  | cons x r ih =>
    intro t h0 h
    have hx := hg x (by simp)
    rw [freeGo]
    split
    · exact ih (fun y hy => hg y (by simp [hy])) _ hx.1 hx.2
    · exact ih (fun y hy => hg y (by simp [hy])) _ h0 h
theorem free_yes (f g : Nat → Int) (m : Nat) (frm run : Int) (h : freeGo f g run frm (ordN f m) + run ≤ 2000) : IsFree f g m frm run (freeGo f g run frm (ordN f m)) true := by
  obtain ⟨h1, h2, h3⟩ := freeGo_facts f g run _ (ord_sorted f m) frm
  refine .inl ⟨rfl, h1, h, ?_, fun s k1 k2 => ?_⟩
  · rintro ⟨i, hi, k1, k2⟩
    rcases h2 i ((ord_mem f m i).2 hi) with h | h <;> omega
  · obtain ⟨x, hx, k⟩ := h3 s k1 k2; exact ⟨x, (ord_mem f m x).1 hx, k⟩
theorem free_no (f g : Nat → Int) (m : Nat) (frm run : Int) (h : 2000 < freeGo f g run frm (ordN f m) + run) : IsFree f g m frm run 0 false := by
  obtain ⟨h1, h2, h3⟩ := freeGo_facts f g run _ (ord_sorted f m) frm
  refine .inr ⟨rfl, rfl, fun s k1 k2 => ?_⟩
  obtain ⟨x, hx, k⟩ := h3 s k1 (by omega); exact ⟨x, (ord_mem f m x).1 hx, k⟩
theorem free_late (f g : Nat → Int) (m : Nat) (frm run : Int) (h : 2000 < frm) (hr : 1 ≤ run) : IsFree f g m frm run 0 false := .inr ⟨rfl, rfl, fun s k1 k2 => by omega⟩
end Go.Proofs.Ytjppkcfbhhjniaa
