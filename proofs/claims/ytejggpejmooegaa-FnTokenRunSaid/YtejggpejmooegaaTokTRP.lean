/-
  Plain: trains go with enough tokens.
-/
import Derived.Test.YtejggpejmooegaaTok9P
import Derived.Test.YtejggpejmooegaaTokRP
import Derived.Test.YtejggpejmooegaaTokTuP
import Derived.Test.YtejggpejmooegaaTokC
namespace Go.Proofs.Ytejggpejmooegaa
open Go.RowKit

/-- Do these tokens serve the trains? -/
def okGo : Int → Int → List UInt8 → Prop
  | _, _, [] => True
  | a, b, c :: D => if c = 85 then 0 < a ∧ okGo (a - 1) (b + 1) D else 0 < b ∧ okGo (a + 1) (b - 1) D
theorem okGo_fold : ∀ (D : List UInt8) (t x y A B : Int), t ≤ x → -t ≤ y → (((D.foldl stepN (t, x, y)).2.1 ≤ A ∧ (D.foldl stepN (t, x, y)).2.2 ≤ B) ↔ (x ≤ A ∧ y ≤ B ∧ okGo (A - t) (B + t) D))
  | [], t, x, y, A, B, h1, h2 => by simp [okGo]
  | c :: D, t, x, y, A, B, h1, h2 => by
    simp only [List.foldl_cons, stepN, okGo]
    by_cases hc : c = 85
    · simp only [if_pos hc]
      rw [okGo_fold D (t + 1) _ _ A B (by omega) (by omega), show A - (t + 1) = A - t - 1 by omega, show B + (t + 1) = B + t + 1 by omega]
      constructor
      · rintro ⟨p, q, r⟩; exact ⟨by omega, by omega, by omega, r⟩
      · rintro ⟨p, q, r, s⟩; exact ⟨by omega, by omega, s⟩
    · simp only [if_neg hc]
      rw [okGo_fold D (t - 1) _ _ A B (by omega) (by omega), show A - (t - 1) = A - t + 1 by omega, show B + (t - 1) = B + t - 1 by omega]
      constructor
      · rintro ⟨p, q, r⟩; exact ⟨by omega, by omega, by omega, r⟩
      · rintro ⟨p, q, r, s⟩; exact ⟨by omega, by omega, s⟩
theorem okGo_needs (D : List UInt8) (A B : Int) (hA : 0 ≤ A) (hB : 0 ≤ B) : okGo A B D ↔ needA D ≤ A ∧ needB D ≤ B := by
  have := okGo_fold D 0 0 0 A B (by omega) (by omega)
  simp only [needA, needB, needSt]
  rw [this, show A - 0 = A by omega, show B + 0 = B by omega]
  exact ⟨fun h => ⟨hA, hB, h⟩, fun h => h.2.2⟩
/-- Ups less downs. -/
def net (D : List UInt8) : Int := (D.count 85 : Int) - (D.count 68 : Int)
theorem net_u (D : List UInt8) : net (85 :: D) = 1 + net D := by
  unfold net; rw [List.count_cons_self, List.count_cons_of_ne (by decide)]; omega
theorem net_d (D : List UInt8) : net (68 :: D) = net D - 1 := by
  unfold net; rw [List.count_cons_self, List.count_cons_of_ne (by decide)]; omega
theorem tr_go : ∀ (D : List UInt8) (a b : Int), (∀ c ∈ D, isUD c = true) → (okGo a b D → runGo a b 0 (trL D) = some (a - net D, b + net D, 0)) ∧ (¬ okGo a b D → runGo a b 0 (trL D) = none)
  | [], a, b, _ => by
    refine ⟨fun _ => ?_, fun h => absurd trivial h⟩
    show some (a, b, 0) = _
    simp [net]
  | c :: D, a, b, hu => by
    have hu2 : ∀ c ∈ D, isUD c = true := fun x hx => hu x (by simp [hx])
    rcases ud_cases (hu c (by simp)) with rfl | rfl
    · have e : trL (85 :: D) = 97 :: 112 :: trL D := rfl
      have hok : okGo a b (85 :: D) ↔ (0 < a ∧ okGo (a - 1) (b + 1) D) := by rw [okGo, if_pos rfl]
      obtain ⟨h1, h2⟩ := tr_go D (a - 1) (b + 1) hu2
      rw [e, hok, net_u]
      by_cases ha : 0 < a
      · rw [runGo, step_a rfl ha]
        simp only
        rw [runGo, step_p1 rfl]
        simp only
        refine ⟨fun h => ?_, fun h => h2 (fun x => h ⟨ha, x⟩)⟩
        rw [h1 h.2, show a - 1 - net D = a - (1 + net D) by omega, show b + 1 + net D = b + (1 + net D) by omega]
      · rw [runGo, step_a_no (by omega)]
        exact ⟨fun h => absurd h.1 ha, fun _ => rfl⟩
    · have e : trL (68 :: D) = 98 :: 112 :: trL D := rfl
      have hok : okGo a b (68 :: D) ↔ (0 < b ∧ okGo (a + 1) (b - 1) D) := by rw [okGo, if_neg (by decide)]
      obtain ⟨h1, h2⟩ := tr_go D (a + 1) (b - 1) hu2
      rw [e, hok, net_d]
      by_cases hb : 0 < b
      · rw [runGo, step_b rfl hb]
        simp only
        rw [runGo, step_p2 rfl]
        simp only
        refine ⟨fun h => ?_, fun h => h2 (fun x => h ⟨hb, x⟩)⟩
        rw [h1 h.2, show a + 1 - net D = a - (net D - 1) by omega, show b - 1 + net D = b + (net D - 1) by omega]
      · rw [runGo, step_b_no (by omega)]
        exact ⟨fun h => absurd h.1 hb, fun _ => rfl⟩
/-- The run of trains. -/
theorem tr_run {s : ByteArray} (h : trOk s.data.toList = true) (a b : Int) (hab : 0 ≤ a ∧ 0 ≤ b ∧ a + b ≤ 12) : runS a b 0 (trS s).data.toList = if needA s.data.toList ≤ a ∧ needB s.data.toList ≤ b then some (a - net s.data.toList, b + net s.data.toList, 0) else none := by
  have h' := h
  simp only [trOk, Bool.and_eq_true, decide_eq_true_eq] at h
  have hu := all_ud h.1
  obtain ⟨h1, h2⟩ := tr_go s.data.toList a b hu
  have hn := okGo_needs s.data.toList a b hab.1 hab.2.1
  have hv : tokV a b 0 = true := by rw [tokV_iff]; omega
  unfold runS
  rw [trS_yes h', baOf_list, if_pos ⟨hv, by rw [trL_len]; omega⟩]
  by_cases hok : okGo a b s.data.toList
  · rw [h1 hok, if_pos (hn.1 hok)]
  · rw [h2 hok, if_neg (fun x => hok (hn.2 x))]
theorem tr_neg (a b : Int) (l : List UInt8) (h : ¬ (0 ≤ a ∧ 0 ≤ b ∧ a + b ≤ 12)) : runS a b 0 l = none := by
  apply runS_v
  cases hv : tokV a b 0
  · rfl
  · rw [tokV_iff] at hv; omega
theorem net_bd (l : List UInt8) : (l.count 85 : Int) ≤ l.length ∧ (l.count 68 : Int) ≤ l.length := by
  have h1 : l.count 85 ≤ l.length := List.count_le_length
  have h2 : l.count 68 ≤ l.length := List.count_le_length
  omega
theorem tt_facts {s : ByteArray} (h : trOk s.data.toList = true) : ∃ (a b : Int) (u d : Nat), needsA s.data.toList = a ∧ needsB s.data.toList = b ∧ s.data.toList.count 85 = u ∧ s.data.toList.count 68 = d ∧ dirsV s.data.toList = true ∧ (0 ≤ a ∧ 0 ≤ b ∧ a + b ≤ 60) ∧ (u ≤ 15 ∧ d ≤ 15) ∧
    (trS s).size ≤ 30 ∧ (a + b ≤ 12 → (runS a b 0 (trS s).data.toList = some (a - (u : Int) + (d : Int), b + (u : Int) - (d : Int), 0) ∧ runS (a - 1) b 0 (trS s).data.toList = none ∧ runS a (b - 1) 0 (trS s).data.toList = none)) := by
  have h' := h
  simp only [trOk, Bool.and_eq_true, decide_eq_true_eq] at h
  obtain ⟨hv, hl⟩ := h
  obtain ⟨n1, n2⟩ := needs_yes hv
  have hb := need_bounds s.data.toList
  have hnb := net_bd s.data.toList
  refine ⟨needA s.data.toList, needB s.data.toList, _, _, n1, n2, rfl, rfl, hv, by omega, by omega, ?_, fun h12 => ⟨?_, ?_, ?_⟩⟩
  · rw [trS_yes h', baOf_size, trL_len]; omega
  · rw [tr_run h' _ _ (by omega), if_pos ⟨by omega, by omega⟩]
    unfold net
    rw [show needA s.data.toList - ((s.data.toList.count 85 : Int) - (s.data.toList.count 68 : Int)) = needA s.data.toList - (s.data.toList.count 85 : Int) + (s.data.toList.count 68 : Int) by omega,
      show needB s.data.toList + ((s.data.toList.count 85 : Int) - (s.data.toList.count 68 : Int)) = needB s.data.toList + (s.data.toList.count 85 : Int) - (s.data.toList.count 68 : Int) by omega]
  · by_cases h0 : needA s.data.toList = 0
    · exact tr_neg _ _ _ (by omega)
    · rw [tr_run h' _ _ (by omega), if_neg (by omega)]
  · by_cases h0 : needB s.data.toList = 0
    · exact tr_neg _ _ _ (by omega)
    · rw [tr_run h' _ _ (by omega), if_neg (by omega)]
end Go.Proofs.Ytejggpejmooegaa
