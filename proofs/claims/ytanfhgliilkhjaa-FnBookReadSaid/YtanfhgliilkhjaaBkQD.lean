/-
  Plain law of FnBookRead: the reading of a rest. No program in sight.
-/
import Derived.Test.YtanfhgliilkhjaaBkQ
namespace Go.Proofs.Ytanfhgliilkhjaa
set_option linter.unusedVariables false

theorem ixF_succ (e : LD) (D : Nat → LD) (k : Nat) (fw : Nat → Nat) (i : Nat) : ixF e D k fw (i + 1) = if stAt e (e.n - k) (D i) ∧ fw (k - max 1 (D i).n) + 1 < mnF e D k fw i then i else ixF e D k fw i := rfl
theorem mnF_sub {e e' : LD} {D : Nat → LD} {k : Nat} {fw : Nat → Nat} (h : ∀ i, stAt e' (e'.n - k) (D i) ↔ stAt e (e.n - k) (D i)) (i : Nat) : mnF e' D k fw i = mnF e D k fw i := by
  induction i with
  | zero => rfl
  | succ i ih =>
    rw [mnF_succ, mnF_succ, ih]
    by_cases hs : stAt e (e.n - k) (D i)
    · rw [if_pos hs, if_pos ((h i).2 hs)]
    · rw [if_neg hs, if_neg (fun x => hs ((h i).1 x))]
theorem ixF_sub {e e' : LD} {D : Nat → LD} {k : Nat} {fw : Nat → Nat} (h : ∀ i, stAt e' (e'.n - k) (D i) ↔ stAt e (e.n - k) (D i)) (i : Nat) : ixF e' D k fw i = ixF e D k fw i := by
  induction i with
  | zero => rfl
  | succ i ih =>
    rw [ixF_succ, ixF_succ, ih, mnF_sub h]
    by_cases hs : stAt e (e.n - k) (D i) ∧ fw (k - max 1 (D i).n) + 1 < mnF e D k fw i
    · rw [if_pos hs, if_pos ⟨(h i).2 hs.1, hs.2⟩]
    · rw [if_neg hs, if_neg (fun x => hs ⟨(h i).1 x.1, x.2⟩)]
theorem ixF_congr {e : LD} {D : Nat → LD} {k : Nat} {fw fw' : Nat → Nat} (hk : 0 < k) (h : ∀ j, j < k → fw j = fw' j) (i : Nat) : ixF e D k fw i = ixF e D k fw' i := by
  induction i with
  | zero => rfl
  | succ i ih => rw [ixF_succ, ixF_succ, ih, mnF_congr hk h, h (k - max 1 (D i).n) (by omega)]
/-- The rest of a ring behind its first t groups. -/
def tl (e : LD) (t : Nat) : LD := ⟨e.n - t, fun i => e.f (t + i)⟩
theorem st_sub {e d : LD} {t k : Nat} (ht : t ≤ e.n) (hk : k ≤ e.n - t) : stAt (tl e t) ((tl e t).n - k) d ↔ stAt e (e.n - k) d := by
  constructor
  · rintro ⟨h1, h2⟩
    have h1 : e.n - t - k + d.n ≤ e.n - t := h1
    refine ⟨by omega, fun i hi => ?_⟩
    rw [← h2 i hi]
    show e.f _ = e.f (t + (e.n - t - k + i))
    congr 1; omega
  · rintro ⟨h1, h2⟩
    refine ⟨by show e.n - t - k + d.n ≤ e.n - t; omega, fun i hi => ?_⟩
    rw [← h2 i hi]
    show e.f (t + (e.n - t - k + i)) = e.f _
    congr 1; omega
theorem few_sub {e : LD} {D : Nat → LD} {m t : Nat} (ht : t ≤ e.n) : ∀ k, k ≤ e.n - t → few (tl e t) D m k = few e D m k := by
  intro k
  induction k using Nat.strongRecOn with
  | _ k ih =>
    intro hk
    by_cases h0 : k = 0
    · subst h0; rfl
    · rw [few_pos (by omega), few_pos (by omega), mnF_sub (fun i => st_sub ht hk)]
      exact mnF_congr (by omega) (fun j hj => ih j hj (by omega)) _
theorem ix_sub {e : LD} {D : Nat → LD} {m t k : Nat} (ht : t ≤ e.n) (hk : k ≤ e.n - t) (h0 : 0 < k) : ix (tl e t) D m k = ix e D m k := by
  unfold ix
  rw [ixF_sub (fun i => st_sub ht hk)]
  exact ixF_congr h0 (fun j hj => few_sub ht j (by omega)) _
theorem rdg_sub {e : LD} {D : Nat → LD} {m t : Nat} (ht : t ≤ e.n) : ∀ k, k ≤ e.n - t → rdg (tl e t) D m k = rdg e D m k := by
  intro k
  induction k using Nat.strongRecOn with
  | _ k ih =>
    intro hk
    by_cases h0 : k = 0
    · subst h0; rfl
    · rw [rdg_pos (e := tl e t) (k := k) (by omega), rdg_pos (e := e) (k := k) (by omega), ix_sub ht hk (by omega), ih _ (by omega) (by omega)]
/-- The facts of one round: code k stands at the head of the ring. -/
theorem read_round {E : LD} {D : Nat → LD} {m k : Nat} (hv : readV E D m) (hk : k < m) (hn : 0 < E.n) (hs : stAt E 0 (D k)) : ∃ (q : Bool) (l : List Nat) (t : Nat) (r : List Nat), ReadV (tl E (D k).n) D m q (natI l) ∧ rdg E D m E.n = t :: r ∧
    (q = true → l.length ≤ 20 ∧ r.length ≤ l.length ∧ (l.length = r.length → t ≤ k) ∧ (k = t → l = r)) := by
  have hn1 := (hv.1.1.2 k hk).1.1
  have hmx : max 1 (D k).n = (D k).n := by omega
  have hle : (D k).n ≤ E.n := by have := hs.1; omega
  have hs' : stAt E (E.n - E.n) (D k) := by rw [Nat.sub_self]; exact hs
  have hE := hv.1.2.1
  have hf := hv.2
  obtain ⟨q1, q2, q3, q4⟩ := ix_spec hn hf
  have hmin := few_min hn hk hs'
  have hp := rdg_pos (e := E) (D := D) (m := m) hn
  have hl1 := rdg_len (e := E) (D := D) (m := m) E.n hf
  rw [hp, List.length_cons] at hl1
  rcases Classical.em (readV (tl E (D k).n) D m) with h | h
  · have hfs := few_sub (D := D) (m := m) hle (E.n - (D k).n) (Nat.le_refl _)
    have hrs := rdg_sub (D := D) (m := m) hle (E.n - (D k).n) (Nat.le_refl _)
    have hf2 : few E D m (E.n - (D k).n) < 1000 := by rw [← hfs]; exact h.2
    have hl2 := rdg_len (e := E) (D := D) (m := m) (E.n - (D k).n) hf2
    have hk2 := few_k (e := E) (D := D) (m := m) (E.n - (D k).n) hf2
    refine ⟨true, rdg E D m (E.n - (D k).n), _, _, .inl ⟨h, rfl, by show _ = natI (rdg (tl E (D k).n) D m (E.n - (D k).n)); rw [hrs]⟩, hp, fun _ => ⟨by omega, by rw [hl2]; rw [hmx] at hmin; omega, fun e => ?_, fun e => ?_⟩⟩
    · rw [hl2] at e
      rcases Nat.lt_or_ge k (ix E D m E.n) with x | x
      · have := q4 k x hs'
        rw [hmx] at this
        omega
      · exact x
    · rw [← e, hmx]
  · exact ⟨false, [], _, _, .inr ⟨h, rfl, rfl⟩, hp, fun x => by cases x⟩
/-- The reading rings the ring. -/
theorem read_rings {E : LD} {D : Nat → LD} {m : Nat} (hv : readV E D m) : RingV D m (natI (rdg E D m E.n)).length (fun i => (natI (rdg E D m E.n)).getD i 0) true (lst E.f E.n) ∧ (natI (rdg E D m E.n)).length ≤ 20 := by
  have hb := hv.1.1
  have hD : ∀ i, i < m → 1 ≤ (D i).n := fun i hi => (hb.2 i hi).1.1.1
  have hr := rdg_ring (E := E) hD E.n (Nat.le_refl _) hv.2
  rw [rst_all] at hr
  have hE := hv.1.2.1
  have hl := rdg_len (e := E) (D := D) (m := m) E.n hv.2
  have hk := few_k (e := E) (D := D) (m := m) E.n hv.2
  have hrr : rng D (fun i => (natI (rdg E D m E.n)).getD i 0) (natI (rdg E D m E.n)).length = lst E.f E.n := by rw [natI_len, rng_natI, hr]
  refine ⟨.inl ⟨⟨hb, fun i hi => ?_, by rw [hrr, lst_len]; exact hE⟩, rfl, hrr.symm⟩, by rw [natI_len]; omega⟩
  rw [natI_len] at hi
  have hm := rdg_lt (e := E) (D := D) (m := m) E.n hv.2 _ (List.getElem_mem hi)
  have : (natI (rdg E D m E.n)).getD i 0 = (((rdg E D m E.n)[i] : Nat) : Int) := by simp [natI, List.getD, hi]
  show 0 ≤ (natI (rdg E D m E.n)).getD i 0 ∧ (natI (rdg E D m E.n)).getD i 0 < m
  rw [this]
  omega
theorem readV_is (E : LD) (D : Nat → LD) (m : Nat) : ∃ ok xs, ReadV E D m ok xs ∧ xs.length ≤ 20 := by
  rcases Classical.em (readV E D m) with h | h
  · exact ⟨true, _, .inl ⟨h, rfl, rfl⟩, (read_rings h).2⟩
  · exact ⟨false, _, .inr ⟨h, rfl, rfl⟩, by simp⟩
theorem stAt_eqI {n n1 : Nat} {f f1 : Nat → Int} (hn : n1 ≤ n) (h : eqI n1 f n1 f1 = true) : stAt ⟨n, f⟩ 0 ⟨n1, f1⟩ := by
  have h2 := (of_decide_eq_true h : n1 = n1 ∧ ∀ i, i < n1 → f i = f1 i).2
  exact ⟨by show 0 + n1 ≤ n; omega, fun i hi => by show f (0 + i) = f1 i; rw [Nat.zero_add]; exact h2 i hi⟩
end Go.Proofs.Ytanfhgliilkhjaa
