/-
  Contracts in the form in which the laws on PathsOrder and PathsGap use them.
-/
import Derived.Test.YthlegnghojbcaaaPathGp
import Derived.Test.YthlegnghojbcaaaPathFq
namespace Go.Proofs.Ythlegnghojbcaaa
open Go.RowKit
set_option linter.unusedVariables false

/-- A list of numbers that a call has made, and a yes or a no. -/
def IdxOut (w : World) (ok : Bool) (q : Nat) (f : Nat → Int) (e : Ending) (w' : World) : Prop :=
  ∃ (A : Option Addr) (c : Nat), e = .returned (.tuple #[.slice A q c, .bool ok]) ∧ (∃ b, (0 < q → w.heap.size ≤ b ∧ b < w'.heap.size) ∧ Ow w' b A q f) ∧ Below w.heap.size w w'
theorem IdxRes.out {w : World} {l : List Nat} {ok : Bool} {e : Ending} {w' : World} (h : IdxRes w l ok e w') : IdxOut w ok l.length (fun i => ((l.getD i 0 : Nat) : Int)) e w' := by
  obtain ⟨g, c, he, hg, ho, hb⟩ := h
  exact ⟨_, c, he, ⟨g, fun _ => hg, ho⟩, hb⟩
/-- What both PathsOrder hand back. -/
theorem d_PathsOrder (n k : Int) (m : Nat) (D : Nat → PD) (hm : m ≤ 1048576) : ∃ (ok : Bool) (l : List Nat), l.length ≤ 8 ∧
    (∀ (W : World) (E : Option Addr) (d : Nat), PsRn W W.heap.size E m D → Calls Try.prog 41 #[.int .i64 n, .slice E m d, .int .i64 k] W (IdxRes W l ok)) ∧
    (∀ (W : World) (E : Option Addr) (d : Nat), PsRn W W.heap.size E m D → Calls Try.prog 42 #[.int .i64 n, .slice E m d, .int .i64 k] W (IdxRes W l ok)) := by
  cases hv : hasS n D m k
  · exact ⟨false, [], by simp, fun W E d h => sOrd_no E m d D n k W h (by omega) hv, fun W E d h => iOrd_no E m d D n k W h (by omega) hv⟩
  · obtain ⟨j, rfl⟩ := Int.eq_ofNat_of_zero_le (hasS_iff.1 hv).2.1
    have hm8 : m ≤ 8 := (pathsV_iff.1 (hasS_iff.1 hv).1).2.2.1
    exact ⟨true, _, by rw [ord_len]; exact hm8, fun W E d h => sOrd_yes E m d D n j W h hv, fun W E d h => iOrd_yes E m d D n j W h hv⟩
/-- What both PathsGap hand back. -/
theorem d_FnExactPathsGap (n k : Int) (m : Nat) (D : Nat → PD) (hm : m ≤ 1048576) : ∃ v : Int,
    (∀ (W : World) (E : Option Addr) (d : Nat), PsRn W W.heap.size E m D → Calls Try.prog 39 #[.int .i64 n, .slice E m d, .int .i64 k] W fun e w' => e = .returned (.int .i64 v) ∧ Below W.heap.size W w') ∧
    (∀ (W : World) (E : Option Addr) (d : Nat), PsRn W W.heap.size E m D → Calls Try.prog 40 #[.int .i64 n, .slice E m d, .int .i64 k] W fun e w' => e = .returned (.int .i64 v) ∧ Below W.heap.size W w') := by
  cases hv : hasS n D m k
  · exact ⟨-1, fun W E d h => sGap_no E m d D n k W h (by omega) hv, fun W E d h => iGap_no E m d D n k W h (by omega) hv⟩
  · obtain ⟨j, rfl⟩ := Int.eq_ofNat_of_zero_le (hasS_iff.1 hv).2.1
    by_cases h2 : 2 ≤ m
    · exact ⟨_, fun W E d h => sGap_yes E m d D n j W h hv h2, fun W E d h => iGap_yes E m d D n j W h hv h2⟩
    · exact ⟨-1, fun W E d h => sGap_few E m d D n j W h hv (by omega), fun W E d h => iGap_few E m d D n j W h hv (by omega)⟩
theorem markInts_ow2 (lo hi : Nat) (A : Option Addr) (n c : Nat) (f : Nat → Int) (k0 : Int) (w : World) (h : ∃ b, (0 < n → lo ≤ b ∧ b < hi) ∧ Ow w b A n f) (hk0 : 0 ≤ k0) (hk1 : k0 ≤ 1000000000) (hn : n ≤ 1048576) :
    Calls Try.prog 35 #[.slice A n c, .int .i64 k0] w fun e w' => e = .returned (.int .i64 (k0 + n)) ∧ (∃ b, (0 < n → lo ≤ b ∧ b < hi) ∧ Ow w' b A n (fun i => k0 + i)) ∧ Mid lo hi w w' := by
  obtain ⟨b, hb, ho⟩ := h
  refine (markInts A n c b f k0 w ho hk0 (by omega) (by omega)).mono ?_
  rintro e w' ⟨he, ho', hg, h0⟩
  refine ⟨he, ⟨b, hb, ho'⟩, ?_⟩
  by_cases hn0 : n = 0
  · rw [h0 hn0]; exact Mid.refl _ _ _
  · have := hb (by omega); exact Mid.of_grown hg this.1 this.2
theorem heldInts_b (A : Option Addr) (n c : Nat) (k0 : Int) (w : World) (h : Rn w w.heap.size A n (fun i => k0 + i)) (hk0 : 0 ≤ k0) (hk1 : k0 ≤ 1000000000) (hn : n ≤ 1048576) :
    Calls Try.prog 43 #[.slice A n c, .int .i64 k0] w fun e w' => e = .returned (.int .i64 (k0 + n)) ∧ Below w.heap.size w w' :=
  (heldInts A n c _ _ k0 w h (fun _ _ => rfl) hk0 (by omega) (by omega)).mono fun _ _ ⟨he, hw⟩ => ⟨he, by rw [← hw]; exact Below.refl _ _⟩
end Go.Proofs.Ythlegnghojbcaaa
