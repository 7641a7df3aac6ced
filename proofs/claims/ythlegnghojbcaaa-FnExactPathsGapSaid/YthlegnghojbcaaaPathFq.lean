/-
  Contracts in the form in which the laws on PathsFit and PathsAdd use them.
-/
import Derived.Test.YthlegnghojbcaaaPathFm
import Derived.Test.YthlegnghojbcaaaPathMk
import Derived.Test.YthlegnghojbcaaaPathFr
namespace Go.Proofs.Ythlegnghojbcaaa
open Go.RowKit
set_option linter.unusedVariables false

theorem Hold.ow {W : World} {l : List Atom} {lo hi n : Nat} {A : Option Addr} {f : Nat → Int} (h : Hold W l) (hB : hi ≤ W.heap.size) (hr : ∃ b, (0 < n → lo ≤ b ∧ b < hi) ∧ Ow W b A n f) : Hold W (owA lo hi A n f :: l) := h.cons (owA_ok _ _ _ _ _) hB hr
theorem Hold.owrn {W : World} {l : List Atom} {lo hi n : Nat} {A : Option Addr} {f : Nat → Int} (h : Hold W (owA lo hi A n f :: l)) : Rn W W.heap.size A n f := by
  have h2 : hi ≤ W.heap.size := h.hi
  obtain ⟨b, hb, ho⟩ : ∃ b, (0 < n → lo ≤ b ∧ b < hi) ∧ Ow W b A n f := h.hd
  intro hn
  have := hb hn
  exact ho.rn (by omega) hn
theorem toInts_ow (A : Option Addr) (n c : Nat) (f : Nat → Int) (w : World) (h : Rn w w.heap.size A n f) (hn : n ≤ 1048576) :
    Calls Try.prog 31 #[.slice A n c] w fun e w' => e = .returned (.slice (some ⟨w.heap.size, 0, none⟩) n n) ∧ (∃ b, (0 < n → w.heap.size ≤ b ∧ b < w'.heap.size) ∧ Ow w' b (some ⟨w.heap.size, 0, none⟩) n f) ∧ Below w.heap.size w w' :=
  (toInts A n c f _ w h (Nat.le_refl _) hn).mono fun _ _ ⟨he, ho, hl, hb⟩ => ⟨he, ⟨_, fun _ => ⟨Nat.le_refl _, hl⟩, ho⟩, hb⟩
theorem eqInts_self (A E : Option Addr) (n c d : Nat) (f : Nat → Int) (w : World) (h : Rn w w.heap.size A n f) (h2 : Rn w w.heap.size E n f) (hn : n ≤ 1048576) :
    Calls Try.prog 33 #[.slice A n c, .slice E n d] w fun e w' => e = .returned (.bool true) ∧ Below w.heap.size w w' :=
  (eqInts A n c f E n d f w h h2 (by omega) (by omega)).mono fun _ _ ⟨he, q, hq⟩ => ⟨by rw [he, eqI_self], by rw [hq]; exact below_dn (Below.refl _ _) q⟩
theorem markInts_ow (lo hi : Nat) (A : Option Addr) (n c : Nat) (f : Nat → Int) (k0 : Int) (w : World) (h : ∃ b, (0 < n → lo ≤ b ∧ b < hi) ∧ Ow w b A n f) (hk0 : 0 ≤ k0) (hk1 : k0 ≤ 1000000000) (hn : n ≤ 1048576) :
    Calls Try.prog 35 #[.slice A n c, .int .i64 k0] w fun e w' => e = .returned (.int .i64 (k0 + n)) ∧ Mid lo hi w w' := by
  obtain ⟨b, hb, ho⟩ := h
  refine (markInts A n c b f k0 w ho hk0 (by omega) (by omega)).mono ?_
  rintro e w' ⟨he, _, hg, h0⟩
  refine ⟨he, ?_⟩
  by_cases hn0 : n = 0
  · rw [h0 hn0]; exact Mid.refl _ _ _
  · have := hb (by omega); exact Mid.of_grown hg this.1 this.2
theorem markPathS_is (t : Nat) (T : TypeId) (lo hi g n c : Nat) (D : Nat → PD) (k0 : Int) (w : World) (h : PsPart w T lo hi g n n D) (hhi : hi ≤ w.heap.size) (hk0 : 0 ≤ k0) (hk1 : k0 ≤ 1000000000) (he : tot D n = t) (ht : (n : Int) + t ≤ 1048576) :
    Calls Try.prog 34 #[.slice (some ⟨g, 0, none⟩) n c, .int .i64 k0] w fun e w' => e = .returned (.int .i64 (k0 + t)) ∧ Mid lo hi w w' := by
  subst he; exact markPathS_any T lo hi g n c D k0 w h hhi hk0 hk1 ht
theorem d_FnExactPathsFit (n frm : Int) (m : Nat) (D : Nat → PD) (r : Nat) (f : Nat → Int) (hm : m ≤ 1048576) (hr : r ≤ 1048576) : ∃ (ok : Bool) (m1 m2 : Nat) (g1 g2 : Nat → Int), m1 ≤ 1048576 ∧ m2 ≤ 1048576 ∧
    (∀ (W : World) (E : Option Addr) (d : Nat) (R : Option Addr) (rd : Nat), PsRn W W.heap.size E m D → Rn W W.heap.size R r f → Calls Try.prog 30 #[.int .i64 n, .slice E m d, .int .i64 frm, .slice R r rd] W (PathRes W ok m1 g1 m2 g2)) ∧
    (∀ (W : World) (E : Option Addr) (d : Nat) (R : Option Addr) (rd : Nat), PsRn W W.heap.size E m D → Rn W W.heap.size R r f → Calls Try.prog 32 #[.int .i64 n, .slice E m d, .int .i64 frm, .slice R r rd] W (PathRes W ok m1 g1 m2 g2)) := by
  have no : ∀ (W : World) (e : Ending) (w' : World), NoPath W e w' → PathRes W false 0 (fun _ => 0) 0 (fun _ => 0) e w' := fun W e w' ⟨he, hb⟩ => ⟨none, 0, none, 0, he, OwP.nil _ _ _ _ _ _ _, hb⟩
  rcases Classical.em (pathsV n D m = true ∧ runsV n r f ∧ 0 ≤ frm) with hv | hv
  · obtain ⟨h1, h2, h3⟩ := hv
    obtain rfl : (r : Int) = n := h2.2.1
    rcases Classical.em (okTo D m f frm r) with ho | ho
    · exact ⟨true, r, r, _, _, hr, hr, fun W E d R rd p q => (sFit_go E m d D R r rd f frm W p q h1 h2 h3).mono fun e w' h => h.elim (fun x => x.2) (fun x => absurd ho x.1),
        fun W E d R rd p q => (iFit_go E m d D R r rd f frm W p q h1 h2 h3).mono fun e w' h => h.elim (fun x => x.2) (fun x => absurd ho x.1)⟩
    · exact ⟨false, 0, 0, fun _ => 0, fun _ => 0, by omega, by omega, fun W E d R rd p q => (sFit_go E m d D R r rd f frm W p q h1 h2 h3).mono fun e w' h => h.elim (fun x => absurd x.1 ho) (fun x => no _ _ _ x.2),
        fun W E d R rd p q => (iFit_go E m d D R r rd f frm W p q h1 h2 h3).mono fun e w' h => h.elim (fun x => absurd x.1 ho) (fun x => no _ _ _ x.2)⟩
  · exact ⟨false, 0, 0, fun _ => 0, fun _ => 0, by omega, by omega, fun W E d R rd p q => (sFit_no E m d D R r rd f n frm W p q (by omega) (by omega) hv).mono fun e w' h => no _ _ _ h,
      fun W E d R rd p q => (iFit_no E m d D R r rd f n frm W p q (by omega) (by omega) hv).mono fun e w' h => no _ _ _ h⟩
end Go.Proofs.Ythlegnghojbcaaa
