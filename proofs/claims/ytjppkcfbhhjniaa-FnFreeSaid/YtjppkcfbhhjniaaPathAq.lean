/-
  Contracts in the form in which the law on PathsAdd uses them.
-/
import Derived.Test.YtjppkcfbhhjniaaPathFq
import Derived.Test.YtjppkcfbhhjniaaPathAs
namespace Go.Proofs.Ytjppkcfbhhjniaa
open Go.RowKit
set_option linter.unusedVariables false

/-- A slice of paths that a call has made; there is room for n. -/
def pkA (T lo hi g n k : Nat) (D : Nat → PD) : Atom := ⟨lo, hi, fun W => PsPart W T lo hi g n k D⟩
theorem pkA_ok (T lo hi g n k : Nat) (D : Nat → PD) : (pkA T lo hi g n k D).ok := fun _ _ h hs hk => PsPart.keep h hs hk
section
variable {W : World} {l : List Atom} {T lo hi g n k : Nat} {D : Nat → PD}
theorem Hold.pk (h : Hold W l) (hB : hi ≤ W.heap.size) (hr : PsPart W T lo hi g n k D) : Hold W (pkA T lo hi g n k D :: l) := h.cons (pkA_ok _ _ _ _ _ _ _) hB hr
theorem Hold.pkrn (h : Hold W (pkA T lo hi g n k D :: l)) (hk : k ≤ n) : PsRn W W.heap.size (some ⟨g, 0, none⟩) k D := PsPart.rnk h.hd hk h.hi
theorem Hold.pkP (h : Hold W (pkA T lo hi g n k D :: l)) : PsPart W T lo hi g n k D := h.hd
end
theorem tot_bd {D : Nat → PD} {B : Nat} : ∀ k, (∀ i, i < k → (D i).m1 ≤ B ∧ (D i).m2 ≤ B) → tot D k ≤ 2 * B * k := by
  intro k
  induction k with
  | zero => intro _; simp [tot]
  | succ k ih =>
    intro h
    have h1 := ih (fun i hi => h i (by omega))
    have h2 := h k (by omega)
    have e : tot D (k + 1) = tot D k + (D k).m1 + (D k).m2 := rfl
    rw [e, Nat.mul_succ]
    omega
def AddOut (w : World) (T : TypeId) (ok : Bool) (k : Nat) (D : Nat → PD) (e : Ending) (w' : World) : Prop :=
  ∃ g c : Nat, e = .returned (.tuple #[.slice (some ⟨g, 0, none⟩) k c, .bool ok]) ∧ k ≤ c ∧ PsPart w' T w.heap.size w'.heap.size g c k D ∧ Below w.heap.size w w'
theorem AddRes.out {w : World} {T : TypeId} {ok : Bool} {k : Nat} {D : Nat → PD} {e : Ending} {w' : World} (h : AddRes w T ok k D e w') : AddOut w T ok k D e w' := by
  obtain ⟨g, c, he, hp, hb⟩ := h
  exact ⟨g, c, he, hp.part.1, hp.part.2, hb⟩
/-- What both PathsAdd hand back. -/
theorem d_PathsAdd (n frm : Int) (m : Nat) (D : Nat → PD) (r : Nat) (f : Nat → Int) (hm : m ≤ 1048576) (hr : r ≤ 1048576) : ∃ (ok : Bool) (k : Nat) (E : Nat → PD), k ≤ 8 ∧ (∀ i, i < k → (E i).m1 ≤ 5 ∧ (E i).m2 ≤ 5) ∧
    (∀ (W : World) (A : Option Addr) (d : Nat) (R : Option Addr) (rd : Nat), PsRn W W.heap.size A m D → Rn W W.heap.size R r f → Calls Try.prog 25 #[.int .i64 n, .slice A m d, .int .i64 frm, .slice R r rd] W (AddRes W 31 ok k E)) ∧
    (∀ (W : World) (A : Option Addr) (d : Nat) (R : Option Addr) (rd : Nat), PsRn W W.heap.size A m D → Rn W W.heap.size R r f → Calls Try.prog 24 #[.int .i64 n, .slice A m d, .int .i64 frm, .slice R r rd] W (AddRes W 31 ok k E)) := by
  rcases Classical.em (pathsV n D m = true ∧ runsV n r f ∧ 0 ≤ frm) with hv | hv
  · obtain ⟨h1, h2, h3⟩ := hv
    obtain rfl : (r : Int) = n := h2.2.1
    have hm8 : m ≤ 8 := (pathsV_iff.1 h1).2.2.1
    have hr5 : 1 ≤ r ∧ r ≤ 5 := by have := h2.1; omega
    rcases Classical.em (okTo D m f frm r) with ho | ho
    · have hfst := fit_first (frm := frm) (pathsV_iff.1 h1).2.2.2 hr5 h2.2.2 h3 ho
      have S := fun (W : World) (A : Option Addr) (d : Nat) (R : Option Addr) (rd : Nat) (p : PsRn W W.heap.size A m D) (q : Rn W W.heap.size R r f) => sAdd_go A m d D R r rd r frm _ _ W p h1 ⟨by omega, hr5.2⟩ ((sFit_go A m d D R r rd f frm W p q h1 h2 h3).mono fun e w' h => h.elim (fun x => x.2) (fun x => absurd ho x.1)) hfst
      have I := fun (W : World) (A : Option Addr) (d : Nat) (R : Option Addr) (rd : Nat) (p : PsRn W W.heap.size A m D) (q : Rn W W.heap.size R r f) => iAdd_go A m d D R r rd r frm _ _ W p h1 ⟨by omega, hr5.2⟩ ((iFit_go A m d D R r rd f frm W p q h1 h2 h3).mono fun e w' h => h.elim (fun x => x.2) (fun x => absurd ho x.1))
      by_cases h8 : m = 8
      · exact ⟨false, 0, D, by omega, fun i hi => absurd hi (by omega), fun W A d R rd p q => (S W A d R rd p q).mono fun _ _ h => h.elim (fun x => absurd x.1 (by omega)) (fun x => x.2), fun W A d R rd p q => (I W A d R rd p q).mono fun _ _ h => h.elim (fun x => absurd x.1 (by omega)) (fun x => x.2)⟩
      · refine ⟨true, m + 1, _, by omega, fun i hi => ?_, fun W A d R rd p q => (S W A d R rd p q).mono fun _ _ h => h.elim (fun x => x.2) (fun x => absurd x.1 h8), fun W A d R rd p q => (I W A d R rd p q).mono fun _ _ h => h.elim (fun x => x.2) (fun x => absurd x.1 h8)⟩
        by_cases e : i = m
        · subst e; rw [addD_at]; exact ⟨hr5.2, hr5.2⟩
        · rw [addD_lt (by omega)]
          have := pathsV_at h1 (show i < m by omega)
          omega
    · exact ⟨false, 0, D, by omega, fun i hi => absurd hi (by omega), fun W A d R rd p q => sAdd_no A m d D R r rd r frm W ((sFit_go A m d D R r rd f frm W p q h1 h2 h3).mono fun e w' h => h.elim (fun x => absurd x.1 ho) (fun x => x.2)),
        fun W A d R rd p q => iAdd_no A m d D R r rd r frm W ((iFit_go A m d D R r rd f frm W p q h1 h2 h3).mono fun e w' h => h.elim (fun x => absurd x.1 ho) (fun x => x.2))⟩
  · exact ⟨false, 0, D, by omega, fun i hi => absurd hi (by omega), fun W A d R rd p q => sAdd_no A m d D R r rd n frm W (sFit_no A m d D R r rd f n frm W p q (by omega) (by omega) hv),
      fun W A d R rd p q => iAdd_no A m d D R r rd n frm W (iFit_no A m d D R r rd f n frm W p q (by omega) (by omega) hv)⟩
end Go.Proofs.Ytjppkcfbhhjniaa
