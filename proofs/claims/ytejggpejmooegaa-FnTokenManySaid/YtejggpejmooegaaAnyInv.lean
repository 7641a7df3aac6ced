/-
  A region that draws its order, walked by an invariant (as in the paths' texts).
-/
import Derived.Test.YtejggpejmooegaaDraw7
import Derived.Orders
import Derived.Deep.RegionLaw
namespace Go.Proofs.Ytejggpejmooegaa
open Go.RowKit Go.Deep
set_option linter.unusedVariables false

section
variable {P : Program} {md : Region.Mode} {ops : Array Oper} {Q : Exit → Act → World → Prop}
/-- What has come up is closed under what it waits for. -/
def ShutL (md : Region.Mode) (ops : Array Oper) (L : Array Bool) : Prop := ∀ (j : Nat) (o : Oper), ops[j]? = some o → L.getD j false = true → ∀ e ∈ o.after, Region.binds md e = true → L.getD e.on false = true
def openN (L : Array Bool) : Nat := L.toList.count false
theorem getD_same {L : Array Bool} {i : Nat} (h : i < L.size) : (L.setIfInBounds i true).getD i false = true := by simp [h]
theorem openN_set {L : Array Bool} {i : Nat} (h : L.getD i true = false) : openN (L.setIfInBounds i true) + 1 = openN L := by
  have hi : i < L.size := by
    rcases Nat.lt_or_ge i L.size with h' | h'
    · exact h'
    · simp [Array.getElem?_eq_none h'] at h
  have hv : L[i] = false := by simpa [hi] using h
  have hpos : 0 < L.toList.count false := List.count_pos_iff.2 (by rw [← hv]; simp)
  unfold openN
  rw [Array.toList_setIfInBounds, List.count_set (by simpa using hi)]
  have h1 : (L.toList[i]'(by simpa using hi) == false) = true := by simp [hv]
  have h2 : (true == false) = false := rfl
  rw [h1, h2]
  simp only [if_true]
  have h3 : (if false = true then 1 else 0) = 0 := rfl
  omega
theorem wpAny_inv (I : Array Bool → Act → World → Prop)
    (hdone : ∀ L a w, L.size = ops.size → ShutL md ops L → Region.ready md ops L = [] → I L a w → Q .normal a w)
    (hstep : ∀ L a w i, L.size = ops.size → ShutL md ops L → i ∈ Region.ready md ops L → I L a w → wpOp P ops Q i (I (L.setIfInBounds i true)) a w) :
    ∀ fuel L a w, L.size = ops.size → ShutL md ops L → openN L ≤ fuel → I L a w → wpAny P md ops Q fuel L a w := by
  intro fuel
  induction fuel with
  | zero =>
    intro L a w hs hsh hc hI
    have hr : Region.ready md ops L = [] := by
      rw [List.eq_nil_iff_forall_not_mem]
      intro j hj
      have h1 := (mem_ready.1 hj).1
      have := openN_set h1
      omega
    exact ⟨hr, hdone L a w hs hsh hr hI⟩
  | succ fuel ih =>
    intro L a w hs hsh hc hI
    refine ⟨fun hr => hdone L a w hs hsh hr hI, fun i hi => wpOp_mono (fun a' w' h => ih _ a' w' (by simpa using hs) ?_ ?_ h) (hstep L a w i hs hsh hi hI)⟩
    · obtain ⟨h0, o, ho, hall⟩ := mem_ready.1 hi
      intro j oj hj hl e he hb
      by_cases hij : j = i
      · subst hij
        rw [ho] at hj
        injection hj with hj
        subst hj
        exact getD_set_true (hall e he hb)
      · rw [getD_set_ne false (Ne.symm hij)] at hl
        exact getD_set_true (hsh j oj hj hl e he hb)
    · have := openN_set (mem_ready.1 hi).1
      omega
/-- Where nothing is ready, all has come up (each waits for lesser ones alone). -/
theorem all_listed {L : Array Bool} (hs : L.size = ops.size) (hr : Region.ready md ops L = []) (hd : ∀ (j : Nat) (o : Oper), ops[j]? = some o → ∀ e ∈ o.after, Region.binds md e = true → e.on < j) : ∀ j, j < ops.size → L.getD j false = true := by
  intro j
  induction j using Nat.strongRecOn with
  | _ j ih =>
    intro hj
    cases hl : L.getD j false
    · exfalso
      have ho : ops[j]? = some ops[j] := Array.getElem?_eq_getElem hj
      have hl2 : L.getD j true = false := by
        have hjL : j < L.size := by omega
        simpa [hjL] using hl
      have hm : j ∈ Region.ready md ops L := mem_ready.2 ⟨hl2, ops[j], ho, fun e he hb => ih e.on (hd j _ ho e he hb) (Nat.lt_trans (hd j _ ho e he hb) hj)⟩
      rw [hr] at hm
      cases hm
    · rfl
theorem put_same {a : Act} {d : Nat} {v : Value} (h : d < a.tmps.size) : (a.put (some d) v).eval (.tmp d) = v := by simp [Act.put, Act.eval, h]
theorem put_ne {a : Act} {d t : Nat} {v : Value} (h : d ≠ t) : (a.put (some d) v).eval (.tmp t) = a.eval (.tmp t) := by simp [Act.put, Act.eval, Array.getElem?_setIfInBounds_ne h]
theorem ev {a : Act} {t : Nat} {v : Value} (h : a.eval (.tmp t) = v) : a.tmps[t]?.getD undef = v := by simpa [Act.eval] using h
theorem put_size {a : Act} {d : Option Tmp} {v : Value} : (a.put d v).tmps.size = a.tmps.size := by cases d <;> simp [Act.put]
theorem put_defers {a : Act} {d : Option Tmp} {v : Value} : (a.put d v).defers = a.defers := by cases d <;> simp [Act.put]
theorem getD_un {L : Array Bool} {i : Nat} (h : L.getD i true = false) : L.getD i false = false := by
  rcases Nat.lt_or_ge i L.size with h' | h'
  · simpa [h'] using h
  · simp [Array.getElem?_eq_none h'] at h
theorem repl_no {n j : Nat} (h : (Array.replicate n false).getD j false = true) : False := by
  rcases Nat.lt_or_ge j n with h' | h'
  · simp [h'] at h
  · simp [Nat.not_lt.2 h'] at h
def depsOk (md : Region.Mode) (ops : Array Oper) : Bool := (List.range ops.size).all fun j => match ops[j]? with
  | some o => o.after.all fun e => !Region.binds md e || decide (e.on < j)
  | none => true
theorem depsOk_spec {md : Region.Mode} {ops : Array Oper} (h : depsOk md ops = true) (j : Nat) (o : Oper) (ho : ops[j]? = some o) : ∀ e ∈ o.after, Region.binds md e = true → e.on < j := by
  have hj : j < ops.size := (Array.getElem?_eq_some_iff.1 ho).1
  have := List.all_eq_true.1 h j (List.mem_range.2 hj)
  rw [ho] at this
  intro e he hb
  have h2 := Array.all_eq_true_iff_forall_mem.1 this e he
  rw [hb] at h2
  exact of_decide_eq_true h2
/-- One operation, not guarded, that yields a value. -/
theorem wpOp_value {i : Nat} {o : Oper} {K : Act → World → Prop} {a : Act} {w w' : World} {v : Value} (hi : ops[i]? = some o) (hg : o.guard = none) (hr : (execOp a.eval o).run P w = .ok (.value v) w') (h : K (a.put o.dst v) w') : wpOp P ops Q i K a w := by
  unfold wpOp
  rw [hi]
  have hw : Region.wanted o (yielded ops a.tmps) = true := by simp [Region.wanted, hg]
  simp only [hw, if_true]
  left
  unfold Oper.wp
  rw [hr]
  exact h
/-- One operation, not guarded, that yields nothing. -/
theorem wpOp_skip {i : Nat} {o : Oper} {K : Act → World → Prop} {a : Act} {w w' : World} (hi : ops[i]? = some o) (hg : o.guard = none) (hr : (execOp a.eval o).run P w = .ok .skip w') (h : K (a.put o.dst undef) w') : wpOp P ops Q i K a w := by
  unfold wpOp
  rw [hi]
  have hw : Region.wanted o (yielded ops a.tmps) = true := by simp [Region.wanted, hg]
  simp only [hw, if_true]
  left
  unfold Oper.wp
  rw [hr]
  exact h
/-- One operation that is a call. -/
theorem wpOp_enter {i : Nat} {o : Oper} {K : Act → World → Prop} {a : Act} {w : World} {f : FuncId} {args : Array Value} (hi : ops[i]? = some o) (hg : o.guard = none) (hr : (execOp a.eval o).run P w = .ok (.enter f args) w)
    {post : Ending → World → Prop} (hc : Calls P f args w post) (h : ∀ e w', post e w' → ∃ v, e = .returned v ∧ K (a.put o.dst v) w') : wpOp P ops Q i K a w := by
  unfold wpOp
  rw [hi]
  have hw : Region.wanted o (yielded ops a.tmps) = true := by simp [Region.wanted, hg]
  simp only [hw, if_true]
  left
  unfold Oper.wp
  rw [hr]
  refine hc.mono fun e w' he => ?_
  obtain ⟨v, rfl, hK⟩ := h e w' he
  exact hK
end

end Go.Proofs.Ytejggpejmooegaa
