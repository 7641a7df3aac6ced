/-
  Plain: with fewer trains, and earlier, a train is free no later; an added train among the others.
-/
import Derived.Test.YtjppkcfbhhjniaaK1
import Derived.Test.YtjppkcfbhhjniaaPathSel
namespace Go.Proofs.Ytjppkcfbhhjniaa
open Go.RowKit
set_option linter.unusedVariables false

theorem free_fewer {f g f' g' : Nat → Int} {m m' : Nat} {t t' run v v' : Int} {ok' : Bool} (h : IsFree f g m t run v true) (hh : ∀ s, hit f' g' m' run s → hit f g m run s) (ht : t' ≤ t) (h' : IsFree f' g' m' t' run v' ok') : ok' = true ∧ v' ≤ v := by
  rcases h with ⟨_, h1, h2, h3, h4⟩ | ⟨h, _⟩
  rotate_left
  · cases h
  rcases h' with ⟨e, k1, k2, k3, k4⟩ | ⟨e, _, k4⟩
  · refine ⟨e, ?_⟩
    by_cases a : v < v'
    · exact absurd (hh _ (k4 v (by omega) a)) h3
    · omega
  · exact absurd (hh _ (k4 v (by omega) h2)) h3
/-- No train of the second list that the first one does not have. -/
def Fewer (D E : Nat → PD) (m p : Nat) : Prop := ∀ i, i < p → ∃ j, j < m ∧ E i = D j
theorem Fewer.refl (D : Nat → PD) (m : Nat) : Fewer D D m m := fun i hi => ⟨i, hi, rfl⟩
theorem Fewer.hit {D E : Nat → PD} {m p k : Nat} {run s : Int} (h : Fewer D E m p) (hh : hit (fun i => (E i).f1 k) (fun i => (E i).f2 k) p run s) : hit (fun i => (D i).f1 k) (fun i => (D i).f2 k) m run s := by
  obtain ⟨i, hi, h1, h2⟩ := hh
  obtain ⟨j, hj, e⟩ := h i hi
  have h1' : s < (E i).f2 k := h1
  have h2' : (E i).f1 k < s + run := h2
  rw [e] at h1' h2'
  exact ⟨j, hj, h1', h2'⟩
theorem fit_fewer {D E : Nat → PD} {m p r : Nat} {f : Nat → Int} {frm frm' : Int} (h : Fewer D E m p) (hf : frm' ≤ frm) (ok : okTo D m f frm r) : ∀ j, j ≤ r → rdy E p f frm' j ≤ rdy D m f frm j ∧ okTo E p f frm' j := by
  intro j
  induction j with
  | zero => intro _; exact ⟨hf, fun k hk => absurd hk (by omega)⟩
  | succ j ih =>
    intro hj
    obtain ⟨h1, h2⟩ := ih (by omega)
    have a := inT_is D m f frm j
    rw [ok j (by omega)] at a
    have b := inT_is E p f frm' j
    obtain ⟨e, le⟩ := free_fewer a (fun s => h.hit) h1 b
    exact ⟨by rw [rdy_succ, rdy_succ]; omega, okTo_step h2 e⟩
theorem fit_in {D E : Nat → PD} {m p r : Nat} {f : Nat → Int} {frm frm' : Int} (h : Fewer D E m p) (hf : frm' ≤ frm) (ok : okTo D m f frm r) : ∀ k, k < r → inT E p f frm' k ≤ inT D m f frm k := by
  intro k hk
  obtain ⟨h1, _⟩ := fit_fewer h hf ok k (by omega)
  have a := inT_is D m f frm k
  rw [ok k hk] at a
  exact (free_fewer a (fun s => h.hit) h1 (inT_is E p f frm' k)).2
/-- The path that was fitted. -/
noncomputable def fitP (D : Nat → PD) (m r : Nat) (f : Nat → Int) (frm : Int) : PD := ⟨r, inT D m f frm, r, fun k => rdy D m f frm (k + 1)⟩
theorem fitP_valid {D : Nat → PD} {m r : Nat} {f : Nat → Int} {frm : Int} (hv : pathsV r D m = true) (hr : 1 ≤ r ∧ r ≤ 5) (hf : ∀ k, k < r → 1 ≤ f k ∧ f k ≤ 100) (h0 : 0 ≤ frm) (hok : okTo D m f frm r) : pathV r (fitP D m r f frm) = true ∧ ∀ i, i < m → clashL r (D i) (fitP D m r f frm) = [] := by
  have h := fit_first (pathsV_iff.1 hv).2.2.2 hr hf h0 hok m (by omega)
  have e : addD D m (fitP D m r f frm) m = fitP D m r f frm := if_pos rfl
  have e2 : ∀ i, i < m → addD D m (fitP D m r f frm) i = D i := fun i hi => if_neg (by omega)
  refine ⟨by rw [← e]; exact h.1, fun i hi => ?_⟩
  have := h.2 i hi
  rw [← e]
  rw [← e2 i hi]
  exact this
theorem fit_adds {D : Nat → PD} {m r : Nat} {f : Nat → Int} {frm : Int} (hv : pathsV r D m = true) (hm : m < 8) (hr : 1 ≤ r ∧ r ≤ 5) (hf : ∀ k, k < r → 1 ≤ f k ∧ f k ≤ 100) (h0 : 0 ≤ frm) (hok : okTo D m f frm r) : pathsV r (addD D m (fitP D m r f frm)) (m + 1) = true :=
  pathsV_iff.2 ⟨by omega, by omega, by omega, fit_first (pathsV_iff.1 hv).2.2.2 hr hf h0 hok⟩
/-- One path left out. -/
def cutD (D : Nat → PD) (t : Nat) : Nat → PD := fun i => if i < t then D i else D (i + 1)
theorem cutD_valid {n : Int} {D : Nat → PD} {m t : Nat} (h : pathsV n D m = true) (ht : t < m) : pathsV n (cutD D t) (m - 1) = true := by
  refine pathsV_sel h (fun i => if i < t then i else i + 1) (by omega) (fun i _ => ?_) (fun i hi => ?_) (fun i j hi hj hne => ?_)
  · show (if i < t then D i else D (i + 1)) = D (if i < t then i else i + 1)
    split <;> rfl
  · show (if i < t then i else i + 1) < m; split <;> omega
  · show (if i < t then i else i + 1) ≠ (if j < t then j else j + 1); split <;> split <;> omega
theorem cutD_fewer {D : Nat → PD} {m t : Nat} (ht : t < m) : Fewer D (cutD D t) m (m - 1) := fun i hi => by
  by_cases c : i < t
  · exact ⟨i, by omega, if_pos c⟩
  · exact ⟨i + 1, by omega, if_neg c⟩
theorem ins_out (f : Nat → Int) (x : Nat) (l : List Nat) (h : x ∉ l) : (ins f x l).filter (fun y => y != x) = l := by
  induction l with
  | nil => simp [ins]
  | cons y r ih =>
    simp only [List.mem_cons, not_or] at h
    have hy : (y != x) = true := bne_iff_ne.2 (fun e => h.1 e.symm)
    have hr : r.filter (fun y => y != x) = r := List.filter_eq_self.2 fun z hz => bne_iff_ne.2 fun e => h.2 (e ▸ hz)
    simp only [ins]
    split
    · rw [List.filter_cons_of_pos (p := fun y => y != x) hy, ih h.2]
    · rw [List.filter_cons_of_neg (p := fun y => y != x) (by simp), List.filter_cons_of_pos (p := fun y => y != x) hy, hr]
theorem ord_same {f g : Nat → Int} {m : Nat} (h : ∀ i, i < m → f i = g i) : ordN f m = ordN g m := ord_congr m fun i j hi hj => by rw [h i hi, h j (by omega)]
/-- An added train stands among the others, whose order is as it was. -/
theorem ord_add {f g : Nat → Int} {m : Nat} (h : ∀ i, i < m → f i = g i) : (ordN g (m + 1)).filter (fun y => y != m) = ordN f m := by
  rw [ord_same h, ordN]
  exact ins_out g m _ (fun hm => by have := (ord_mem g m m).1 hm; omega)
theorem busy_add (D : Nat → PD) (p : PD) (k m : Nat) : busy (addD D m p) k (m + 1) = busy D k m + (p.f2 k - p.f1 k) := by
  have key : ∀ i, i ≤ m → busy (addD D m p) k i = busy D k i := by
    intro i
    induction i with
    | zero => intro _; rfl
    | succ i ih =>
      intro hi
      have e : addD D m p i = D i := if_neg (by omega)
      rw [busy, busy, ih (by omega), e]
  have e : addD D m p m = p := if_pos rfl
  rw [busy, key m (Nat.le_refl _), e]
end Go.Proofs.Ytjppkcfbhhjniaa
