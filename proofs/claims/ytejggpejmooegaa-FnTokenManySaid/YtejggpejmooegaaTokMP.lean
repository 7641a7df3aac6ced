/-
  Plain facts of TokenMany: how many texts of events there are; by states and numbers (the program's), by rows (the reference's). No program in sight.
-/
import Derived.Test.YtejggpejmooegaaTokRP
namespace Go.Proofs.Ytejggpejmooegaa
set_option linter.unusedVariables false

def stp (s : Tk) (c : UInt8) : Option Tk := stepO s.1 s.2.1 s.2.2 c
def vk (s : Tk) : Prop := tokV s.1 s.2.1 s.2.2 = true
/-- The letters. -/
def lets : List UInt8 := [97, 98, 112, 113]
/-- F over the states behind one of some letters. -/
def sumO (F : Tk → Nat) (s : Tk) : List UInt8 → Nat
  | [] => 0
  | c :: r => (match stp s c with | some x => F x | none => 0) + sumO F s r
/-- How many texts of k events can be done. -/
def many : Nat → Tk → Nat
  | 0, _ => 1
  | k + 1, s => sumO (many k) s lets
theorem sumO_none {F : Tk → Nat} {s : Tk} {c : UInt8} {r : List UInt8} (h : stp s c = none) : sumO F s (c :: r) = sumO F s r := by
  show (match stp s c with | some x => F x | none => 0) + _ = _
  rw [h]; simp
theorem sumO_some {F : Tk → Nat} {s x : Tk} {c : UInt8} {r : List UInt8} (h : stp s c = some x) : sumO F s (c :: r) = F x + sumO F s r := by
  show (match stp s c with | some x => F x | none => 0) + _ = _
  rw [h]
theorem vk_iff {a b o : Int} : vk (a, b, o) ↔ tokV a b o = true := Iff.rfl
theorem stp_vk {s x : Tk} {c : UInt8} (h : vk s) (e : stp s c = some x) : vk x := by
  obtain ⟨x1, x2, x3⟩ := x
  exact stepO_valid h e
/-- What stands behind one event, by the token that is out. -/
theorem sumO_0 (F : Tk → Nat) (a b : Int) : sumO F (a, b, 0) lets = (if 0 < a then F (a - 1, b, 1) else 0) + (if 0 < b then F (a, b - 1, 2) else 0) := by
  have hp : stp (a, b, 0) 112 = none := step_p_no (show ¬ (0 : Int) = 1 by omega) (show ¬ (0 : Int) = 2 by omega)
  have hq : stp (a, b, 0) 113 = none := step_q_no (show ¬ (0 : Int) = 1 by omega) (show ¬ (0 : Int) = 2 by omega)
  unfold lets
  by_cases h1 : 0 < a
  · have ha : stp (a, b, 0) 97 = some (a - 1, b, 1) := step_a rfl h1
    rw [sumO_some ha, if_pos h1]
    by_cases h2 : 0 < b
    · have hb : stp (a, b, 0) 98 = some (a, b - 1, 2) := step_b rfl h2
      rw [sumO_some hb, sumO_none hp, sumO_none hq, if_pos h2]; rfl
    · have hb : stp (a, b, 0) 98 = none := step_b_no (fun x => h2 x.2)
      rw [sumO_none hb, sumO_none hp, sumO_none hq, if_neg h2]; rfl
  · have ha : stp (a, b, 0) 97 = none := step_a_no (fun x => h1 x.2)
    rw [sumO_none ha, if_neg h1]
    by_cases h2 : 0 < b
    · have hb : stp (a, b, 0) 98 = some (a, b - 1, 2) := step_b rfl h2
      rw [sumO_some hb, sumO_none hp, sumO_none hq, if_pos h2]; simp [sumO]
    · have hb : stp (a, b, 0) 98 = none := step_b_no (fun x => h2 x.2)
      rw [sumO_none hb, sumO_none hp, sumO_none hq, if_neg h2]; rfl
theorem sumO_1 (F : Tk → Nat) (a b o : Int) (h : o = 1 ∨ o = 2) : sumO F (a, b, o) lets = F (a + 1, b, 0) + F (a, b + 1, 0) := by
  unfold lets
  rcases h with rfl | rfl
  · have ha : stp (a, b, 1) 97 = none := step_a_no (fun x => absurd x.1 (show ¬ (1 : Int) = 0 by omega))
    have hb : stp (a, b, 1) 98 = none := step_b_no (fun x => absurd x.1 (show ¬ (1 : Int) = 0 by omega))
    have hp : stp (a, b, 1) 112 = some (a, b + 1, 0) := step_p1 rfl
    have hq : stp (a, b, 1) 113 = some (a + 1, b, 0) := step_q1 rfl
    rw [sumO_none ha, sumO_none hb, sumO_some hp, sumO_some hq]; simp [sumO]; omega
  · have ha : stp (a, b, 2) 97 = none := step_a_no (fun x => absurd x.1 (show ¬ (2 : Int) = 0 by omega))
    have hb : stp (a, b, 2) 98 = none := step_b_no (fun x => absurd x.1 (show ¬ (2 : Int) = 0 by omega))
    have hp : stp (a, b, 2) 112 = some (a + 1, b, 0) := step_p2 rfl
    have hq : stp (a, b, 2) 113 = some (a, b + 1, 0) := step_q2 rfl
    rw [sumO_none ha, sumO_none hb, sumO_some hp, sumO_some hq]; simp [sumO]
theorem vk_out {s : Tk} (h : vk s) : s.2.2 = 0 ∨ s.2.2 = 1 ∨ s.2.2 = 2 := by
  have := tokV_iff.1 h; omega
theorem sumO_le {F : Tk → Nat} {s : Tk} {B : Nat} (hv : vk s) (h : ∀ x, F x ≤ B) : sumO F s lets ≤ 2 * B := by
  obtain ⟨a, b, o⟩ := s
  have ho : o = 0 ∨ o = 1 ∨ o = 2 := vk_out hv
  rcases ho with rfl | ho | ho
  · rw [sumO_0]
    have h1 := h (a - 1, b, 1)
    have h2 := h (a, b - 1, 2)
    split <;> split <;> omega
  · rw [sumO_1 F a b o (.inl ho)]
    have h1 := h (a + 1, b, 0)
    have h2 := h (a, b + 1, 0)
    omega
  · rw [sumO_1 F a b o (.inr ho)]
    have h1 := h (a + 1, b, 0)
    have h2 := h (a, b + 1, 0)
    omega
/-- The sum over states, each with its number. -/
def wsum (l : List Tk) (v : Tk → Nat) (F : Tk → Nat) : Nat := (l.map fun s => v s * F s).sum
theorem wsum_cons (s : Tk) (l : List Tk) (v F : Tk → Nat) : wsum (s :: l) v F = v s * F s + wsum l v F := by simp [wsum]
theorem wsum_app (l k : List Tk) (v F : Tk → Nat) : wsum (l ++ k) v F = wsum l v F + wsum k v F := by simp [wsum]
def upd (v : Tk → Nat) (s : Tk) (x : Nat) : Tk → Nat := fun t => if t = s then x else v t
theorem wsum_other {l : List Tk} {v F : Tk → Nat} {s : Tk} {x : Nat} (h : s ∉ l) : wsum l (upd v s x) F = wsum l v F := by
  unfold wsum
  congr 1
  apply List.map_congr_left
  intro t ht
  have : t ≠ s := fun e => h (e ▸ ht)
  show (if t = s then x else v t) * F t = _
  rw [if_neg this]
theorem wsum_in {l : List Tk} {v F : Tk → Nat} {s : Tk} {x : Nat} (hn : l.Nodup) (h : s ∈ l) : wsum l (upd v s (v s + x)) F = wsum l v F + x * F s := by
  induction l with
  | nil => cases h
  | cons t l ih =>
    obtain ⟨h1, h2⟩ := List.nodup_cons.1 hn
    rw [wsum_cons, wsum_cons]
    by_cases e : t = s
    · subst e
      rw [wsum_other h1]
      show (if t = t then v t + x else v t) * F t + _ = _
      rw [if_pos rfl, Nat.add_mul]; omega
    · rcases List.mem_cons.1 h with h | h
      · exact absurd h.symm e
      · rw [ih h2 h]
        show (if t = s then v s + x else v t) * F t + _ = _
        rw [if_neg e]; omega
theorem wsum_new {l : List Tk} {v F : Tk → Nat} {s : Tk} {x : Nat} (h : s ∉ l) : wsum (l ++ [s]) (upd v s x) F = wsum l v F + x * F s := by
  rw [wsum_app, wsum_other h, wsum_cons]
  show wsum l v F + ((if s = s then x else v s) * F s + 0) = _
  rw [if_pos rfl]; rfl
theorem wsum_mem {l : List Tk} {v F : Tk → Nat} {s : Tk} (h : s ∈ l) : v s * F s ≤ wsum l v F := by
  induction l with
  | nil => cases h
  | cons t l ih =>
    rw [wsum_cons]
    rcases List.mem_cons.1 h with rfl | h
    · omega
    · have := ih h; omega
theorem wsum_len {l : List Tk} {v : Tk → Nat} (h : ∀ s ∈ l, 1 ≤ v s) : l.length ≤ wsum l v (fun _ => 1) := by
  induction l with
  | nil => exact Nat.zero_le _
  | cons t l ih =>
    rw [wsum_cons, List.length_cons]
    have := ih (fun s hs => h s (by simp [hs]))
    have := h t (by simp)
    omega
theorem wsum_dbl {l : List Tk} {v : Tk → Nat} (h : ∀ s ∈ l, vk s) : wsum l v (fun s => sumO (fun _ => 1) s lets) ≤ 2 * wsum l v (fun _ => 1) := by
  induction l with
  | nil => exact Nat.le_refl _
  | cons t l ih =>
    rw [wsum_cons, wsum_cons]
    have h1 := ih (fun s hs => h s (by simp [hs]))
    have h2 := sumO_le (F := fun _ => 1) (B := 1) (h t (by simp)) (fun _ => Nat.le_refl _)
    have h3 : v t * sumO (fun _ => 1) t lets ≤ v t * (2 * 1) := Nat.mul_le_mul_left _ h2
    omega
/-- The state of a level: distinct valid states, each with a number. -/
structure Lev (l : List Tk) (v : Tk → Nat) : Prop where
  nd : l.Nodup
  vl : ∀ s ∈ l, vk s
  ps : ∀ s ∈ l, 1 ≤ v s
/-- While the state s of the level (l, v) is at its letter j: the next level so far is (l', v'). -/
def MidL (l : List Tk) (v : Tk → Nat) (l' : List Tk) (v' : Tk → Nat) (s : Tk) (j : Nat) (rest : List Tk) : Prop :=
  ∀ F, wsum l' v' F + (v s * sumO F s (lets.drop j) + wsum rest v (fun s => sumO F s lets)) = wsum l v (fun s => sumO F s lets)
/-- Between two states. -/
def BtwL (l : List Tk) (v : Tk → Nat) (l' : List Tk) (v' : Tk → Nat) (rest : List Tk) : Prop :=
  ∀ F, wsum l' v' F + wsum rest v (fun s => sumO F s lets) = wsum l v (fun s => sumO F s lets)
theorem btw_start (l : List Tk) (v v' : Tk → Nat) : BtwL l v [] v' l := fun F => by simp [wsum]
theorem btw_take {l l' rest : List Tk} {v v' : Tk → Nat} {s : Tk} (h : BtwL l v l' v' (s :: rest)) : MidL l v l' v' s 0 rest := fun F => by
  have := h F
  rw [wsum_cons] at this
  exact this
theorem mid_done {l l' rest : List Tk} {v v' : Tk → Nat} {s : Tk} (h : MidL l v l' v' s 4 rest) : BtwL l v l' v' rest := fun F => by
  have := h F
  rw [show lets.drop 4 = [] from rfl] at this
  simpa [sumO] using this
theorem lets_drop {j : Nat} (hj : j < lets.length) : lets.drop j = lets[j] :: lets.drop (j + 1) := List.drop_eq_getElem_cons hj
theorem mid_skip {l l' rest : List Tk} {v v' : Tk → Nat} {s : Tk} {j : Nat} (h : MidL l v l' v' s j rest) (hj : j < lets.length) (hs : stp s lets[j] = none) : MidL l v l' v' s (j + 1) rest := fun F => by
  have := h F
  rw [lets_drop hj, sumO_none hs] at this
  exact this
theorem mid_in {l l' rest : List Tk} {v v' : Tk → Nat} {s x : Tk} {j : Nat} (h : MidL l v l' v' s j rest) (hj : j < lets.length) (hs : stp s lets[j] = some x) (hn : l'.Nodup) (hx : x ∈ l') : MidL l v l' (upd v' x (v' x + v s)) s (j + 1) rest := fun F => by
  have := h F
  rw [lets_drop hj, sumO_some hs, Nat.mul_add] at this
  rw [wsum_in hn hx]; omega
theorem mid_new {l l' rest : List Tk} {v v' : Tk → Nat} {s x : Tk} {j : Nat} (h : MidL l v l' v' s j rest) (hj : j < lets.length) (hs : stp s lets[j] = some x) (hx : x ∉ l') : MidL l v (l' ++ [x]) (upd v' x (v s)) s (j + 1) rest := fun F => by
  have := h F
  rw [lets_drop hj, sumO_some hs, Nat.mul_add] at this
  rw [wsum_new hx]; omega
theorem Lev.in_ {l : List Tk} {v : Tk → Nat} {x : Tk} {y : Nat} (h : Lev l v) (hx : x ∈ l) (hy : 1 ≤ y) : Lev l (upd v x y) :=
  ⟨h.nd, h.vl, fun s hs => by show 1 ≤ (if s = x then y else v s); split; exact hy; exact h.ps s hs⟩
theorem Lev.new {l : List Tk} {v : Tk → Nat} {x : Tk} {y : Nat} (h : Lev l v) (hx : x ∉ l) (hv : vk x) (hy : 1 ≤ y) : Lev (l ++ [x]) (upd v x y) := by
  refine ⟨?_, fun s hs => ?_, fun s hs => ?_⟩
  · rw [List.nodup_append]
    exact ⟨h.nd, by simp, fun a ha b hb e => hx (by have hbx : b = x := (by simpa using hb); rw [← hbx, ← e]; exact ha)⟩
  · rcases List.mem_append.1 hs with hs | hs
    · exact h.vl s hs
    · have : s = x := by simpa using hs
      rw [this]; exact hv
  · show 1 ≤ (if s = x then y else v s)
    rcases List.mem_append.1 hs with hs | hs
    · split
      · exact hy
      · exact h.ps s hs
    · have : s = x := by simpa using hs
      rw [if_pos this]; exact hy
/-- A level is done: twice as many at most, and the sum over what is left stays. -/
theorem btw_end {l l' : List Tk} {v v' : Tk → Nat} (hl : Lev l v) (h : BtwL l v l' v' []) (k : Nat) : wsum l' v' (many k) = wsum l v (many (k + 1)) := by
  have := h (many k)
  rw [show wsum [] v _ = 0 from rfl, Nat.add_zero] at this
  exact this
theorem btw_bound {l l' rest : List Tk} {v v' : Tk → Nat} (hl : Lev l v) (h : BtwL l v l' v' rest) : wsum l' v' (fun _ => 1) ≤ 2 * wsum l v (fun _ => 1) := by
  have h1 := h (fun _ => 1)
  have h2 := wsum_dbl (v := v) hl.vl
  omega
theorem mid_bound {l l' rest : List Tk} {v v' : Tk → Nat} {s : Tk} {j : Nat} (hl : Lev l v) (h : MidL l v l' v' s j rest) : wsum l' v' (fun _ => 1) ≤ 2 * wsum l v (fun _ => 1) := by
  have h1 := h (fun _ => 1)
  have h2 := wsum_dbl (v := v) hl.vl
  omega
theorem lev_one {t : Tk} (h : vk t) : Lev [t] (fun _ => 1) := ⟨by simp, fun s hs => by have hst : s = t := (by simpa using hs); rw [hst]; exact h, fun _ _ => Nat.le_refl _⟩
theorem wsum_one (t : Tk) (F : Tk → Nat) : wsum [t] (fun _ => 1) F = F t := by simp [wsum]
/-- The rows of the reference. -/
def rowN (tot : Nat) (W : Nat → Nat) (a : Nat) : Nat := (if 0 < a then W (a - 1) + W a else 0) + (if a < tot then W (a + 1) + W a else 0)
def evW (tot : Nat) : Nat → Nat → Nat
  | 0 => fun _ => 1
  | k + 1 => rowN tot (evW tot k)
def odW (tot : Nat) : Nat → Nat → Nat
  | 0 => fun a => min 1 a + min 1 (tot - a)
  | k + 1 => rowN tot (odW tot k)
theorem many_two {tot a : Nat} (ha : a ≤ tot) (k : Nat) : many (k + 2) ((a : Int), (tot : Int) - (a : Int), 0) = rowN tot (fun x => many k ((x : Int), (tot : Int) - (x : Int), 0)) a := by
  show sumO (fun s => sumO (many k) s lets) _ lets = _
  rw [sumO_0, sumO_1 _ _ _ 1 (.inl rfl), sumO_1 _ _ _ 2 (.inr rfl)]
  unfold rowN
  congr 1
  · by_cases h : 0 < a
    · rw [if_pos (by omega), if_pos h]
      have e1 : ((a : Int) - 1 + 1, (tot : Int) - (a : Int), (0 : Int)) = ((a : Int), (tot : Int) - (a : Int), 0) := by congr 1; omega
      have e2 : ((a : Int) - 1, (tot : Int) - (a : Int) + 1, (0 : Int)) = (((a - 1 : Nat) : Int), (tot : Int) - ((a - 1 : Nat) : Int), 0) := by
        congr 1
        · omega
        · congr 1; omega
      rw [e1, e2]; exact Nat.add_comm _ _
    · rw [if_neg (by omega), if_neg h]
  · by_cases h : a < tot
    · rw [if_pos (by omega), if_pos h]
      have e1 : ((a : Int), (tot : Int) - (a : Int) - 1 + 1, (0 : Int)) = ((a : Int), (tot : Int) - (a : Int), 0) := by
        congr 1; congr 1; omega
      have e2 : ((a : Int) + 1, (tot : Int) - (a : Int) - 1, (0 : Int)) = (((a + 1 : Nat) : Int), (tot : Int) - ((a + 1 : Nat) : Int), 0) := by
        congr 1; congr 1; omega
      rw [e1, e2]
    · rw [if_neg (by omega), if_neg h]
theorem rowN_congr {tot a : Nat} {W V : Nat → Nat} (ha : a ≤ tot) (h : ∀ x, x ≤ tot → W x = V x) : rowN tot W a = rowN tot V a := by
  unfold rowN
  by_cases h1 : 0 < a
  · rw [if_pos h1, if_pos h1, h (a - 1) (by omega), h a ha]
    by_cases h2 : a < tot
    · rw [if_pos h2, if_pos h2, h (a + 1) (by omega)]
    · rw [if_neg h2, if_neg h2]
  · rw [if_neg h1, if_neg h1]
    by_cases h2 : a < tot
    · rw [if_pos h2, if_pos h2, h (a + 1) (by omega), h a ha]
    · rw [if_neg h2, if_neg h2]
theorem many_even (tot : Nat) : ∀ k a, a ≤ tot → many (2 * k) ((a : Int), (tot : Int) - (a : Int), 0) = evW tot k a := by
  intro k
  induction k with
  | zero => intro a _; rfl
  | succ k ih =>
    intro a ha
    rw [show 2 * (k + 1) = 2 * k + 2 by omega, many_two ha]
    exact rowN_congr ha fun x hx => ih x hx
theorem many_odd (tot : Nat) : ∀ k a, a ≤ tot → many (2 * k + 1) ((a : Int), (tot : Int) - (a : Int), 0) = odW tot k a := by
  intro k
  induction k with
  | zero =>
    intro a ha
    show sumO (fun _ => 1) _ lets = min 1 a + min 1 (tot - a)
    rw [sumO_0]
    split <;> split <;> omega
  | succ k ih =>
    intro a ha
    rw [show 2 * (k + 1) + 1 = (2 * k + 1) + 2 by omega, many_two ha]
    exact rowN_congr ha fun x hx => ih x hx
theorem many_out {a b o : Int} (h : o = 1 ∨ o = 2) (k : Nat) : many (k + 1) (a, b, o) = many k (a + 1, b, 0) + many k (a, b + 1, 0) := sumO_1 _ a b o h
theorem many_le : ∀ k s, vk s → many k s ≤ 2 ^ k := by
  intro k
  induction k with
  | zero => intro s _; exact Nat.le_refl _
  | succ k ih =>
    intro s hs
    show sumO (many k) s lets ≤ _
    have h1 : ∀ (r : List UInt8), sumO (many k) s r ≤ sumO (fun _ => 2 ^ k) s r := by
      intro r
      induction r with
      | nil => exact Nat.le_refl _
      | cons c r ih2 =>
        cases e : stp s c with
        | none => rw [sumO_none e, sumO_none e]; exact ih2
        | some x =>
          rw [sumO_some e, sumO_some e]
          have := ih x (stp_vk hs e)
          omega
    have h2 := h1 lets
    have h3 := sumO_le (F := fun _ => 2 ^ k) (B := 2 ^ k) hs (fun _ => Nat.le_refl _)
    rw [Nat.pow_succ]; omega
theorem evW_le (tot : Nat) : ∀ k a, evW tot k a ≤ 4 ^ k := by
  intro k
  induction k with
  | zero => intro a; exact Nat.le_refl _
  | succ k ih =>
    intro a
    show rowN tot (evW tot k) a ≤ _
    unfold rowN
    have h1 := ih (a - 1)
    have h2 := ih a
    have h3 := ih (a + 1)
    rw [Nat.pow_succ]
    split <;> split <;> omega
theorem odW_le (tot : Nat) : ∀ k a, odW tot k a ≤ 2 * 4 ^ k := by
  intro k
  induction k with
  | zero => intro a; show min 1 a + min 1 (tot - a) ≤ _; omega
  | succ k ih =>
    intro a
    show rowN tot (odW tot k) a ≤ _
    unfold rowN
    have h1 := ih (a - 1)
    have h2 := ih a
    have h3 := ih (a + 1)
    rw [Nat.pow_succ]
    split <;> split <;> omega
end Go.Proofs.Ytejggpejmooegaa
