/-
  Plain: from section to section, each as soon as it is free.
-/
import Derived.Test.YtjppkcfbhhjniaaPathFP
namespace Go.Proofs.Ytjppkcfbhhjniaa
open Go.RowKit

noncomputable def frT (D : Nat → PD) (m k : Nat) (run t : Int) : Int := Classical.choose (isFree_ex (fun i => (D i).f1 k) (fun i => (D i).f2 k) m t run)
noncomputable def frB (D : Nat → PD) (m k : Nat) (run t : Int) : Bool := Classical.choose (Classical.choose_spec (isFree_ex (fun i => (D i).f1 k) (fun i => (D i).f2 k) m t run))
theorem fr_is (D : Nat → PD) (m k : Nat) (run t : Int) : IsFree (fun i => (D i).f1 k) (fun i => (D i).f2 k) m t run (frT D m k run t) (frB D m k run t) :=
  Classical.choose_spec (Classical.choose_spec (isFree_ex (fun i => (D i).f1 k) (fun i => (D i).f2 k) m t run))
/-- When the train is ready for section k. -/
noncomputable def rdy (D : Nat → PD) (m : Nat) (f : Nat → Int) (frm : Int) : Nat → Int
  | 0 => frm
  | k + 1 => frT D m k (f k) (rdy D m f frm k) + f k
noncomputable def inT (D : Nat → PD) (m : Nat) (f : Nat → Int) (frm : Int) (k : Nat) : Int := frT D m k (f k) (rdy D m f frm k)
noncomputable def okB (D : Nat → PD) (m : Nat) (f : Nat → Int) (frm : Int) (k : Nat) : Bool := frB D m k (f k) (rdy D m f frm k)
def okTo (D : Nat → PD) (m : Nat) (f : Nat → Int) (frm : Int) (j : Nat) : Prop := ∀ k, k < j → okB D m f frm k = true
theorem rdy_succ (D : Nat → PD) (m : Nat) (f : Nat → Int) (frm : Int) (k : Nat) : rdy D m f frm (k + 1) = inT D m f frm k + f k := rfl
theorem inT_is (D : Nat → PD) (m : Nat) (f : Nat → Int) (frm : Int) (k : Nat) : IsFree (fun i => (D i).f1 k) (fun i => (D i).f2 k) m (rdy D m f frm k) (f k) (inT D m f frm k) (okB D m f frm k) := fr_is _ _ _ _ _
theorem inT_bd {D : Nat → PD} {m : Nat} {f : Nat → Int} {frm : Int} {k : Nat} (h : okB D m f frm k = true) : rdy D m f frm k ≤ inT D m f frm k ∧ inT D m f frm k + f k ≤ 2000 := by
  rcases inT_is D m f frm k with ⟨_, h1, h2, _⟩ | ⟨h1, _⟩
  · exact ⟨h1, h2⟩
  · rw [h] at h1; cases h1
theorem rdy_bd {D : Nat → PD} {m : Nat} {f : Nat → Int} {frm : Int} {j : Nat} (h : okTo D m f frm j) (h0 : 0 ≤ frm) (hf : ∀ k, k < j → 1 ≤ f k) : 0 ≤ rdy D m f frm j := by
  induction j with
  | zero => exact h0
  | succ j ih =>
    have h1 := ih (fun k hk => h k (by omega)) (fun k hk => hf k (by omega))
    have h2 := inT_bd (h j (by omega))
    have h3 := hf j (by omega)
    rw [rdy_succ]; omega
theorem okTo_step {D : Nat → PD} {m : Nat} {f : Nat → Int} {frm : Int} {j : Nat} (h : okTo D m f frm j) (h1 : okB D m f frm j = true) : okTo D m f frm (j + 1) := fun k hk => by
  by_cases e : k = j
  · subst e; exact h1
  · exact h k (by omega)
end Go.Proofs.Ytjppkcfbhhjniaa
