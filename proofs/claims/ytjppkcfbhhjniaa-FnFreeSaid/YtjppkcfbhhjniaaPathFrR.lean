/-
  The region of DrawPathsFree that draws its order, by an invariant.
-/
import Derived.Test.YtjppkcfbhhjniaaPathOrL
import Derived.Orders
import Derived.Deep.RegionLaw
namespace Go.Proofs.Ytjppkcfbhhjniaa
open Go.RowKit Go.Deep
set_option linter.unusedVariables false

section
variable {P : Program} {md : Region.Mode} {ops : Array Oper} {Q : Exit → Act → World → Prop}
/-- What has come up is closed under what it waits for. -/
def ShutL (md : Region.Mode) (ops : Array Oper) (L : Array Bool) : Prop := ∀ (j : Nat) (o : Oper), ops[j]? = some o → L.getD j false = true → ∀ e ∈ o.after, Region.binds md e = true → L.getD e.on false = true
def openN (L : Array Bool) : Nat := L.toList.count false
theorem getD_same {L : Array Bool} {i : Nat} (h : i < L.size) : (L.setIfInBounds i true).getD i false = true := by simp [h]
theorem openN_set {L : Array Bool} {i : Nat} (h : L.getD i true = false) : openN (L.setIfInBounds i true) + 1 = openN L := by
  have hi : i < L.size := by
    rcases Nat.lt_or_ge i L.size with h' | h'
    · exact h'
    · simp [Array.getElem?_eq_none h'] at h
  have hv : L[i] = false := by simpa [hi] using h
  have hpos : 0 < L.toList.count false := List.count_pos_iff.2 (by rw [← hv]; simp)
  unfold openN
  rw [Array.toList_setIfInBounds, List.count_set (by simpa using hi)]
  have h1 : (L.toList[i]'(by simpa using hi) == false) = true := by simp [hv]
  have h2 : (true == false) = false := rfl
  rw [h1, h2]
  simp only [if_true]
  have h3 : (if false = true then 1 else 0) = 0 := rfl
  omega
theorem wpAny_inv (I : Array Bool → Act → World → Prop)
    (hdone : ∀ L a w, L.size = ops.size → ShutL md ops L → Region.ready md ops L = [] → I L a w → Q .normal a w)
    (hstep : ∀ L a w i, L.size = ops.size → ShutL md ops L → i ∈ Region.ready md ops L → I L a w → wpOp P ops Q i (I (L.setIfInBounds i true)) a w) :
    ∀ fuel L a w, L.size = ops.size → ShutL md ops L → openN L ≤ fuel → I L a w → wpAny P md ops Q fuel L a w := by
  intro fuel
  induction fuel with
  | zero =>
    intro L a w hs hsh hc hI
    have hr : Region.ready md ops L = [] := by
      rw [List.eq_nil_iff_forall_not_mem]
      intro j hj
      have h1 := (mem_ready.1 hj).1
      have := openN_set h1
      omega
    exact ⟨hr, hdone L a w hs hsh hr hI⟩
  | succ fuel ih =>
    intro L a w hs hsh hc hI
    refine ⟨fun hr => hdone L a w hs hsh hr hI, fun i hi => wpOp_mono (fun a' w' h => ih _ a' w' (by simpa using hs) ?_ ?_ h) (hstep L a w i hs hsh hi hI)⟩
    · obtain ⟨h0, o, ho, hall⟩ := mem_ready.1 hi
      intro j oj hj hl e he hb
      by_cases hij : j = i
      · subst hij
        rw [ho] at hj
        injection hj with hj
        subst hj
        exact getD_set_true (hall e he hb)
      · rw [getD_set_ne false (Ne.symm hij)] at hl
        exact getD_set_true (hsh j oj hj hl e he hb)
    · have := openN_set (mem_ready.1 hi).1
      omega
/-- Where nothing is ready, all has come up (each waits for lesser ones alone). -/
theorem all_listed {L : Array Bool} (hs : L.size = ops.size) (hr : Region.ready md ops L = []) (hd : ∀ (j : Nat) (o : Oper), ops[j]? = some o → ∀ e ∈ o.after, Region.binds md e = true → e.on < j) : ∀ j, j < ops.size → L.getD j false = true := by
  intro j
  induction j using Nat.strongRecOn with
  | _ j ih =>
    intro hj
    cases hl : L.getD j false
    · exfalso
      have ho : ops[j]? = some ops[j] := Array.getElem?_eq_getElem hj
      have hl2 : L.getD j true = false := by
        have hjL : j < L.size := by omega
        simpa [hjL] using hl
      have hm : j ∈ Region.ready md ops L := mem_ready.2 ⟨hl2, ops[j], ho, fun e he hb => ih e.on (hd j _ ho e he hb) (Nat.lt_trans (hd j _ ho e he hb) hj)⟩
      rw [hr] at hm
      cases hm
    · rfl
theorem put_same {a : Act} {d : Nat} {v : Value} (h : d < a.tmps.size) : (a.put (some d) v).eval (.tmp d) = v := by simp [Act.put, Act.eval, h]
theorem put_ne {a : Act} {d t : Nat} {v : Value} (h : d ≠ t) : (a.put (some d) v).eval (.tmp t) = a.eval (.tmp t) := by simp [Act.put, Act.eval, Array.getElem?_setIfInBounds_ne h]
theorem ev {a : Act} {t : Nat} {v : Value} (h : a.eval (.tmp t) = v) : a.tmps[t]?.getD undef = v := by simpa [Act.eval] using h
theorem put_size {a : Act} {d : Option Tmp} {v : Value} : (a.put d v).tmps.size = a.tmps.size := by cases d <;> simp [Act.put]
theorem put_defers {a : Act} {d : Option Tmp} {v : Value} : (a.put d v).defers = a.defers := by cases d <;> simp [Act.put]
theorem getD_un {L : Array Bool} {i : Nat} (h : L.getD i true = false) : L.getD i false = false := by
  rcases Nat.lt_or_ge i L.size with h' | h'
  · simpa [h'] using h
  · simp [Array.getElem?_eq_none h'] at h
theorem repl_no {n j : Nat} (h : (Array.replicate n false).getD j false = true) : False := by
  rcases Nat.lt_or_ge j n with h' | h'
  · simp [h'] at h
  · simp [Nat.not_lt.2 h'] at h
def depsOk (md : Region.Mode) (ops : Array Oper) : Bool := (List.range ops.size).all fun j => match ops[j]? with
  | some o => o.after.all fun e => !Region.binds md e || decide (e.on < j)
  | none => true
theorem depsOk_spec {md : Region.Mode} {ops : Array Oper} (h : depsOk md ops = true) (j : Nat) (o : Oper) (ho : ops[j]? = some o) : ∀ e ∈ o.after, Region.binds md e = true → e.on < j := by
  have hj : j < ops.size := (Array.getElem?_eq_some_iff.1 ho).1
  have := List.all_eq_true.1 h j (List.mem_range.2 hj)
  rw [ho] at this
  intro e he hb
  have h2 := Array.all_eq_true_iff_forall_mem.1 this e he
  rw [hb] at h2
  exact of_decide_eq_true h2
/-- One operation, not guarded, that yields a value. -/
theorem wpOp_value {i : Nat} {o : Oper} {K : Act → World → Prop} {a : Act} {w w' : World} {v : Value} (hi : ops[i]? = some o) (hg : o.guard = none) (hr : (execOp a.eval o).run P w = .ok (.value v) w') (h : K (a.put o.dst v) w') : wpOp P ops Q i K a w := by
  unfold wpOp
  rw [hi]
  have hw : Region.wanted o (yielded ops a.tmps) = true := by simp [Region.wanted, hg]
  simp only [hw, if_true]
  left
  unfold Oper.wp
  rw [hr]
  exact h
/-- One operation that is a call. -/
theorem wpOp_enter {i : Nat} {o : Oper} {K : Act → World → Prop} {a : Act} {w : World} {f : FuncId} {args : Array Value} (hi : ops[i]? = some o) (hg : o.guard = none) (hr : (execOp a.eval o).run P w = .ok (.enter f args) w)
    {post : Ending → World → Prop} (hc : Calls P f args w post) (h : ∀ e w', post e w' → ∃ v, e = .returned v ∧ K (a.put o.dst v) w') : wpOp P ops Q i K a w := by
  unfold wpOp
  rw [hi]
  have hw : Region.wanted o (yielded ops a.tmps) = true := by simp [Region.wanted, hg]
  simp only [hw, if_true]
  left
  unfold Oper.wp
  rw [hr]
  refine hc.mono fun e w' he => ?_
  obtain ⟨v, rfl, hK⟩ := h e w' he
  exact hK
end

/-- Blocks behind the reader stand as they were. -/
def GBR (R : Nat) (w w' : World) : Prop := w.heap.size ≤ w'.heap.size ∧ ∀ b, R < b → b < w.heap.size → w'.heap[b]? = w.heap[b]?
/-- A cell behind the reader that holds a number. -/
def IC (w : World) (R Z t : Nat) : Prop := (R < Z ∧ Z < w.heap.size) ∧ ∃ x : Int, w.cell? ⟨Z, t, none⟩ = some (.int .i64 x)
section
variable {R : Nat} {w w' : World} {v : Value}
theorem GBR.refl (R : Nat) (w : World) : GBR R w w := ⟨Nat.le_refl _, fun _ _ _ => rfl⟩
theorem GBR.alloc (R : Nat) (w : World) (o : Obj) : GBR R w (w.alloc o) := ⟨by simp, fun b _ hb => blk_alloc_lt _ _ _ hb⟩
theorem GBR.grown (hg : w.grownBy w' (some R)) : GBR R w w' := ⟨hg.size, fun b h1 h2 => hg.block b h2 (fun e => by injection e; omega)⟩
theorem IC.keep {Z t : Nat} (h : IC w R Z t) (hG : GBR R w w') : IC w' R Z t := by
  obtain ⟨⟨h1, h2⟩, x, hc⟩ := h
  exact ⟨⟨h1, by have := hG.1; omega⟩, x, (World.cell?_of_block (a := ⟨Z, t, none⟩) (hG.2 Z h1 h2)).trans hc⟩
theorem IC.new {o : Obj} {t : Nat} {x : Int} (hlo : R < w.heap.size) (hc : (w.alloc o).cell? ⟨w.heap.size, t, none⟩ = some (.int .i64 x)) : IC (w.alloc o) R w.heap.size t :=
  ⟨⟨hlo, by simp⟩, x, hc⟩
end
def frD (j : Nat) : Nat := if j < 13 then 24 + j else j - 11
/-- What is known behind the operation j. -/
def FrF (R n g k c : Nat) (kk : Int) (j : Nat) (v : Value) (w : World) : Prop :=
  match j with
  | 0 => v = .int .i64 n
  | 1 => v = .slice (some ⟨g, 0, none⟩) k c
  | 2 => v = .int .i64 kk
  | 3 => ∃ Z, v = .slice (some ⟨Z, 0, none⟩) 3 3 ∧ ∀ t, t < 3 → IC w R Z t
  | 4 => v = .pointer (some ⟨R, 0, none⟩)
  | 5 => ∃ t : Nat, t < 3 ∧ v = .int .i64 t
  | 6 => ∃ Z t, v = .pointer (some ⟨Z, t, none⟩) ∧ IC w R Z t
  | 7 => ∃ x : Int, v = .int .i64 x
  | 8 => ∃ Z, v = .slice (some ⟨Z, 0, none⟩) 4 4 ∧ ∀ t, t < 4 → IC w R Z t
  | 9 => v = .pointer (some ⟨R, 0, none⟩)
  | 10 => ∃ t : Nat, t < 4 ∧ v = .int .i64 t
  | 11 => ∃ Z t, v = .pointer (some ⟨Z, t, none⟩) ∧ IC w R Z t
  | 12 => ∃ x : Int, v = .int .i64 x
  | 13 => v = .int .i64 n
  | 14 => v = .slice (some ⟨g, 0, none⟩) k c
  | 15 => v = .int .i64 kk
  | _ => ∃ x : Int, v = .int .i64 x
theorem FrF.keep {R n g k c j : Nat} {kk : Int} {v : Value} {w w' : World} (h : FrF R n g k c kk j v w) (hj : j < 18) (hG : GBR R w w') : FrF R n g k c kk j v w' := by
  have hj' : j = 0 ∨ j = 1 ∨ j = 2 ∨ j = 3 ∨ j = 4 ∨ j = 5 ∨ j = 6 ∨ j = 7 ∨ j = 8 ∨ j = 9 ∨ j = 10 ∨ j = 11 ∨ j = 12 ∨ j = 13 ∨ j = 14 ∨ j = 15 ∨ j = 16 ∨ j = 17 := by omega
  rcases hj' with rfl | rfl | rfl | rfl | rfl | rfl | rfl | rfl | rfl | rfl | rfl | rfl | rfl | rfl | rfl | rfl | rfl | rfl
  · exact h
  · exact h
  · exact h
  · obtain ⟨Z, e, hc⟩ := h; exact ⟨Z, e, fun t ht => (hc t ht).keep hG⟩
  · exact h
  · exact h
  · obtain ⟨Z, t, e, hc⟩ := h; exact ⟨Z, t, e, hc.keep hG⟩
  · exact h
  · obtain ⟨Z, e, hc⟩ := h; exact ⟨Z, e, fun t ht => (hc t ht).keep hG⟩
  · exact h
  · exact h
  · obtain ⟨Z, t, e, hc⟩ := h; exact ⟨Z, t, e, hc.keep hG⟩
  · exact h
  · exact h
  · exact h
  · exact h
  · exact h
  · exact h
def lf (L : Array Bool) (j : Nat) : Nat := if L.getD j false = true then 0 else 1
/-- The invariant. -/
def FrI (B R n g k c q0 : Nat) (kk : Int) (W0 : World) (L : Array Bool) (a : Act) (w : World) : Prop :=
  (a.tmps.size = 45 ∧ a.defers = [] ∧ a.eval (.tmp 7) = .pointer (some ⟨R, 0, none⟩) ∧ a.eval (.tmp 8) = .int .i64 n ∧ a.eval (.tmp 9) = .slice (some ⟨g, 0, none⟩) k c ∧ a.eval (.tmp 10) = .int .i64 kk) ∧
  (∃ q, Rd B w R q ∧ q + lf L 5 + lf L 10 ≤ q0) ∧ W0.grownBy w (some R) ∧ R < w.heap.size ∧ ∀ j, j < 18 → L.getD j false = true → FrF R n g k c kk j (a.eval (.tmp (frD j))) w
theorem FrI.step {B R n g k c q0 : Nat} {kk : Int} {W0 : World} {L : Array Bool} {a : Act} {w w' : World} {i : Nat} {v : Value} (h : FrI B R n g k c q0 kk W0 L a w) (hi : i < 18)
    (hG : GBR R w w') (hR : ∃ q, Rd B w' R q ∧ q + lf (L.setIfInBounds i true) 5 + lf (L.setIfInBounds i true) 10 ≤ q0) (hg : W0.grownBy w' (some R))
    (hv : FrF R n g k c kk i v w') : FrI B R n g k c q0 kk W0 (L.setIfInBounds i true) (a.put (some (frD i)) v) w' := by
  obtain ⟨⟨h1, h2, h3, h4, h41, h42⟩, h5, h6, h7, h8⟩ := h
  have hb : frD i < 45 ∧ frD i ≠ 7 ∧ frD i ≠ 8 ∧ frD i ≠ 9 ∧ frD i ≠ 10 := by unfold frD; split <;> omega
  refine ⟨⟨by rw [put_size]; exact h1, by rw [put_defers]; exact h2, by rw [put_ne hb.2.1]; exact h3, by rw [put_ne hb.2.2.1]; exact h4, by rw [put_ne hb.2.2.2.1]; exact h41, by rw [put_ne hb.2.2.2.2]; exact h42⟩, hR, hg, by have := hG.1; omega, fun j hj hl => ?_⟩
  by_cases e : j = i
  · subst e
    rw [put_same (by omega)]; exact hv
  · have hne : frD i ≠ frD j := by unfold frD; split <;> split <;> omega
    rw [put_ne hne]
    rw [getD_set_ne false (Ne.symm e)] at hl
    exact (h8 j hj hl).keep hj hG
theorem lf_ne {L : Array Bool} {i j : Nat} (h : i ≠ j) : lf (L.setIfInBounds i true) j = lf L j := by unfold lf; rw [getD_set_ne false h]
theorem lf_same {L : Array Bool} {i : Nat} (h : i < L.size) : lf (L.setIfInBounds i true) i = 0 := by unfold lf; rw [if_pos (getD_same h)]
theorem lf_un {L : Array Bool} {i : Nat} (h : L.getD i false = false) : lf L i = 1 := by unfold lf; rw [if_neg (by rw [h]; simp)]
/-- A step that leaves the world. -/
theorem FrI.same {B R n g k c q0 : Nat} {kk : Int} {W0 : World} {L : Array Bool} {a : Act} {w : World} {i : Nat} {v : Value} (h : FrI B R n g k c q0 kk W0 L a w) (hi : i < 18) (h5 : i ≠ 5) (h10 : i ≠ 10)
    (hv : FrF R n g k c kk i v w) : FrI B R n g k c q0 kk W0 (L.setIfInBounds i true) (a.put (some (frD i)) v) w :=
  h.step hi (GBR.refl _ _) (by rw [lf_ne h5, lf_ne h10]; exact h.2.1) h.2.2.1 hv
/-- A step that makes memory. -/
theorem FrI.made {B R n g k c q0 : Nat} {kk : Int} {W0 : World} {L : Array Bool} {a : Act} {w : World} {i : Nat} {v : Value} (o : Obj) (h : FrI B R n g k c q0 kk W0 L a w) (hi : i < 18) (h5 : i ≠ 5) (h10 : i ≠ 10)
    (hv : FrF R n g k c kk i v (w.alloc o)) : FrI B R n g k c q0 kk W0 (L.setIfInBounds i true) (a.put (some (frD i)) v) (w.alloc o) := by
  refine h.step hi (GBR.alloc _ _ _) ?_ (gb_alloc h.2.2.1 o) hv
  rw [lf_ne h5, lf_ne h10]
  obtain ⟨q, hq, h2⟩ := h.2.1
  exact ⟨q, hq.alloc o, h2⟩
end Go.Proofs.Ytjppkcfbhhjniaa
