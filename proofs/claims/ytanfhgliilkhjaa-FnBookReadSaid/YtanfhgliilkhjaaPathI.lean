/-
  Contracts of the small functions on slices of numbers: szIntS, toIntS, eqIntS, markIntS, heldIntS.
-/
import Derived.Test.YtanfhgliilkhjaaProg
import Derived.Test.YtanfhgliilkhjaaK1
import Derived.Lib.Hide
import Derived.BigQuiet
import Derived.Deep.QuietTactic
import Derived.Outline
namespace Go.Proofs.Ytanfhgliilkhjaa
open Go.RowKit
set_option linter.unusedVariables false

theorem bl {B : Nat} {w w1 w2 : World} (h : Below B w w1) (hB : B ≤ w.heap.size) (h2 : Below w1.heap.size w1 w2) : Below B w w2 :=
  h.trans (h2.mono (Nat.le_trans hB h.size))
theorem bcell {W w1 : World} (hb : Below W.heap.size W w1) : (∀ b o, b < W.heap.size → w1.cell? ⟨b, o, none⟩ = W.cell? ⟨b, o, none⟩) ∧ (∀ b o, b < W.heap.size → w1.frozen? ⟨b, o, none⟩ = W.frozen? ⟨b, o, none⟩) :=
  ⟨fun b o h => hb.cell (p := ⟨b, o, none⟩) h, fun b o h => hb.frozen (p := ⟨b, o, none⟩) h⟩
theorem intInfo : (Try.prog.info? 3).map (fun i => (i.zero, i.size, i.bytes)) = some (some (.int .i64 0), 1, 8) := by kernel_rfl
theorem int_eq {a b : Int} (h : a = b) : Value.int .i64 a = .int .i64 b := by rw [h]
/-- szIntS. -/
def szI (n : Nat) (left : Int) : Int := if left - n < 0 then -1 else left - n
theorem szI_no {n : Nat} {left : Int} (h : left - n < 0) : szI n left = -1 := if_pos h
theorem szI_yes {n : Nat} {left : Int} (h : ¬ left - n < 0) : szI n left = left - n := if_neg h
theorem szInts (A : Option Addr) (n c : Nat) (left : Int) (w : World) (h0 : 0 ≤ left) (h1 : left ≤ 1048576) (hn : n ≤ 9223372036854775807) :
    Calls Try.prog 51 #[.slice A n c, .int .i64 left] w fun e w' => e = .returned (.int .i64 (szI n left)) ∧ w = w' := by
  by_cases h : left - n < 0
  · have hn := hide (szI_no h)
    go_enter Try.func51, Try.ntmps51
    go_wp2
    go_ret
    exact ⟨ret_int hn.symm, rfl⟩
  · have hn := hide (szI_yes h)
    go_enter Try.func51, Try.ntmps51
    go_wp2
    go_ret
    exact ⟨ret_int hn.symm, rfl⟩
theorem cells_step (f : Nat → Int) (j k : Nat) : (if j = k then Value.int .i64 (f k) else .int .i64 (if j < k then f j else 0)) = .int .i64 (if j < k + 1 then f j else 0) := by
  by_cases e : j = k
  · subst e; rw [if_pos rfl, if_pos (by omega)]
  · rw [if_neg e]
    by_cases e2 : j < k
    · rw [if_pos e2, if_pos (by omega)]
    · rw [if_neg e2, if_neg (by omega)]
set_option maxHeartbeats 1000000 in
theorem toInts (A : Option Addr) (n c : Nat) (f : Nat → Int) (B : Nat) (w : World) (h : Rn w B A n f) (hB : B ≤ w.heap.size) (hn : n ≤ 1048576) :
    Calls Try.prog 15 #[.slice A n c] w fun e w' => e = .returned (.slice (some ⟨w.heap.size, 0, none⟩) n n) ∧ Ow w' w.heap.size (some ⟨w.heap.size, 0, none⟩) n f ∧ w.heap.size < w'.heap.size ∧ Below w.heap.size w w' := by
  have hmk := run_make_row' (P := Try.prog) 23 3 (.int .i64 0) 8 Try.underlying23 intInfo rfl .i64 .i64 n (by omega) (by omega)
  go_enter Try.func15, Try.ntmps15
  go_wp2
  have hrow := World.rowIs_made w (.int .i64 0) n 3
  go_loopw [4] (fun i wr => ∃ k : Nat, k ≤ n ∧ i = .int .i64 k ∧ wr.rowIs w.heap.size 3 n (fun j => .int .i64 (if j < k then f j else 0)) ∧ Below w.heap.size w wr) (fun i _ => n - (intOf i).toNat)
  case atStart => exact ⟨0, Nat.zero_le _, rfl, hrow.congr (fun j _ => by simp), by go_grown⟩
  case round =>
    obtain ⟨k, hk, rfl, hr, hb⟩ := hrel
    clear hmk hrow
    by_cases hlt : k < n
    · obtain ⟨b, off, rfl, hbB, hc⟩ := h (by omega)
      have hcell := (hb.cell (p := ⟨b, off + k, none⟩) (show b < w.heap.size by omega)).trans (hc k hlt)
      have hne : b ≠ w.heap.size := by omega
      have hnew := hr.cell hlt
      have hfz := hr.frozen k
      have hst := Lib.hid (hr.set (i := k) (v := .int .i64 (f k)))
      clear hc
      go_wp2
      go_roundw
      case rel => exact ⟨k + 1, by omega, by go_num, hst.out.congr (fun j _ => cells_step f j k), by go_grown⟩
      case measure => simp [intOf]; omega
    · obtain rfl : k = n := by omega
      go_wp2
      go_ret
      exact ⟨rfl, Ow.of_row (hr.congr fun j hj => by simp [hj]) (Nat.le_refl _), hr.lt, hb⟩
/-- eqIntS. -/
def eqI (n : Nat) (f : Nat → Int) (m : Nat) (g : Nat → Int) : Bool := decide (n = m ∧ ∀ i, i < n → f i = g i)
theorem eqI_no1 {n m : Nat} {f g : Nat → Int} (h : ¬ n = m) : eqI n f m g = false := decide_eq_false (fun x => h x.1)
theorem eqI_no2 {n m k : Nat} {f g : Nat → Int} (hk : k < n) (h : ¬ f k = g k) : eqI n f m g = false := decide_eq_false (fun x => h (x.2 k hk))
theorem eqI_yes {n : Nat} {f g : Nat → Int} (h : ∀ i, i < n → f i = g i) : eqI n f n g = true := decide_eq_true ⟨rfl, h⟩
theorem eqI_self (n : Nat) (f : Nat → Int) : eqI n f n f = true := eqI_yes (fun _ _ => rfl)
theorem below_dn {B : Nat} {a w : World} (h : Below B a w) (n : Nat) : Below B a (w.drewN n) := ⟨h.os, h.tape, h.output, h.size, h.block⟩
theorem dn_below (w : World) (B n : Nat) : Below B w (w.drewN n) := below_dn (Below.refl _ _) n
theorem drawnq {w : World} {q n : Nat} : ∃ m, (w.drewN q).drewN n = w.drewN m := ⟨_, World.drewN_drewN _ _ _⟩
theorem ne_lit {a b : Int} (h : ¬ a = b) : (a != b) = true := by simpa using h
theorem eq_lit {a b : Int} (h : a = b) : (a != b) = false := by simpa using h
set_option maxHeartbeats 1000000 in
theorem eqInts (A : Option Addr) (n c : Nat) (f : Nat → Int) (D : Option Addr) (m d : Nat) (g : Nat → Int) (w : World) (hA : Rn w w.heap.size A n f) (hD : Rn w w.heap.size D m g) (hn : n ≤ 1099511627776) (hm : m ≤ 1099511627776) :
    Calls Try.prog 17 #[.slice A n c, .slice D m d] w fun e w' => e = .returned (.bool (eqI n f m g)) ∧ ∃ q, w' = w.drewN q := by
  by_cases e : n = m
  rotate_left
  · have hr := hide (eqI_no1 (f := f) (g := g) e)
    have hd : ((n : Int) != (m : Int)) = true := ne_lit (by omega)
    clear e
    go_enter Try.func17, Try.ntmps17
    go_wp2
    go_ret
    exact ⟨ret_bool hr.symm, 0, rfl⟩
  subst e
  have hd : ((n : Int) != (n : Int)) = false := eq_lit rfl
  go_enter Try.func17, Try.ntmps17
  go_wp2
  go_loopw [5] (fun i wr => ∃ k : Nat, k ≤ n ∧ i = .int .i64 k ∧ Hid (∀ j, j < k → f j = g j) ∧ Hid (∃ q, wr = w.drewN q)) (fun i _ => n - (intOf i).toNat)
  case atStart => exact ⟨0, Nat.zero_le _, rfl, fun _ h => absurd h (by omega), 0, rfl⟩
  case round =>
    obtain ⟨k, hk, rfl, hE, hq⟩ := hrel
    by_cases hlt : k < n
    · obtain ⟨b, off, rfl, hbB, hc⟩ := hA (by omega)
      obtain ⟨b2, off2, rfl, hbB2, hc2⟩ := hD (by omega)
      obtain ⟨q, rfl⟩ := hq.out
      have hcell := hc k hlt
      have hcell2 := hc2 k hlt
      have hk0 : (0 : Int) ≤ (k : Int) := by omega
      have hk1 : (k : Int) < (n : Int) := by omega
      clear hc hc2
      by_cases he : f k = g k
      · have hst : Hid (∀ j, j < k + 1 → f j = g j) := fun j hj => by
          by_cases x : j = k
          · subst x; exact he
          · exact hE j (by omega)
        have hd2 := eq_lit he
        clear he
        go_wp2
        go_quiet (fail)
        go_wp2
        go_roundw
        case rel => exact ⟨k + 1, by omega, by go_num, hst, _, rfl⟩
        case measure => simp [intOf]; omega
      · have hr := hide (eqI_no2 (m := n) hlt he)
        have hd2 := ne_lit he
        clear he
        go_wp2
        go_quiet (fail)
        go_wp2
        go_ret
        exact ⟨ret_bool hr.symm, _, World.drewN_drewN _ _ _⟩
    · obtain rfl : k = n := by omega
      have hr := hide (eqI_yes hE)
      obtain ⟨q, rfl⟩ := hq.out
      go_wp2
      go_ret
      exact ⟨ret_bool hr.symm, _, rfl⟩
theorem marks_step (f : Nat → Int) (k0 : Int) (j k : Nat) : (if j = k then k0 + (k : Int) else if j < k then k0 + (j : Int) else f j) = if j < k + 1 then k0 + (j : Int) else f j := by
  by_cases e : j = k
  · subst e; rw [if_pos rfl, if_pos (by omega)]
  · rw [if_neg e]
    by_cases e2 : j < k
    · rw [if_pos e2, if_pos (by omega)]
    · rw [if_neg e2, if_neg (by omega)]
set_option maxHeartbeats 1000000 in
theorem markInts (A : Option Addr) (n c b : Nat) (f : Nat → Int) (k0 : Int) (w : World) (h : Ow w b A n f) (hk0 : 0 ≤ k0) (hk1 : k0 ≤ 1099511627776) (hn : n ≤ 1099511627776) :
    Calls Try.prog 20 #[.slice A n c, .int .i64 k0] w fun e w' => e = .returned (.int .i64 (k0 + n)) ∧ Ow w' b A n (fun i => k0 + i) ∧ w.grownBy w' (some b) ∧ (n = 0 → w' = w) := by
  go_enter Try.func20, Try.ntmps20
  go_wp2
  go_loopw [1, 5] (fun v i wr => ∃ k : Nat, k ≤ n ∧ i = .int .i64 k ∧ v = .int .i64 (k0 + (k : Int)) ∧ Ow wr b A n (fun j => if j < k then k0 + j else f j) ∧ w.grownBy wr (some b) ∧ Hid (n = 0 → wr = w)) (fun _ i _ => n - (intOf i).toNat)
  case atStart => exact ⟨0, Nat.zero_le _, rfl, by simp, h.congr (fun i _ => by simp), gb_refl _ _, fun _ => rfl⟩
  case round =>
    obtain ⟨k, hk, rfl, rfl, hO, hg, h00⟩ := hrel
    by_cases hlt : k < n
    · obtain ⟨off, rfl, hbB, hf, hc⟩ := hO (by omega)
      have hcell := hc k hlt
      have hfz := hf (off + k)
      have hst := Lib.hid (hO.set (k := k) (v := k0 + (k : Int)))
      clear hc hf
      go_wp2
      go_roundw
      case rel => exact ⟨k + 1, by omega, by go_num, by go_num, hst.out.congr (fun j _ => marks_step f k0 j k), gb_setCell hg (.inl rfl) _, fun h => absurd h (by omega)⟩
      case measure => simp [intOf]; omega
    · obtain rfl : k = n := by omega
      go_wp2
      go_ret
      exact ⟨rfl, hO.congr (fun j hj => by simp [hj]), hg, h00⟩
set_option maxHeartbeats 1000000 in
theorem heldInts (A : Option Addr) (n c B : Nat) (f : Nat → Int) (k0 : Int) (w : World) (h : Rn w B A n f) (hf : ∀ i, i < n → f i = k0 + i) (hk0 : 0 ≤ k0) (hk1 : k0 ≤ 1099511627776) (hn : n ≤ 1099511627776) :
    Calls Try.prog 21 #[.slice A n c, .int .i64 k0] w fun e w' => e = .returned (.int .i64 (k0 + n)) ∧ w = w' := by
  have hF := Lib.hid hf
  clear hf
  go_enter Try.func21, Try.ntmps21
  go_wp2
  go_loop [1, 5] (fun v i => ∃ k : Nat, k ≤ n ∧ i = .int .i64 k ∧ v = .int .i64 (k0 + (k : Int))) (fun _ i => n - (intOf i).toNat)
  case atStart => exact ⟨0, Nat.zero_le _, rfl, by simp⟩
  case round =>
    obtain ⟨k, hk, rfl, rfl⟩ := hrel
    by_cases hlt : k < n
    · obtain ⟨b, off, rfl, hbB, hc⟩ := h (by omega)
      have hcell := hc k hlt
      rw [hF.out k hlt] at hcell
      clear hc
      go_wp2
      go_round
      case rel => exact ⟨k + 1, by omega, by go_num, by go_num⟩
      case measure => simp [intOf]; omega
    · obtain rfl : k = n := by omega
      go_wp2
      go_ret
      exact ⟨rfl, rfl⟩
end Go.Proofs.Ytanfhgliilkhjaa
