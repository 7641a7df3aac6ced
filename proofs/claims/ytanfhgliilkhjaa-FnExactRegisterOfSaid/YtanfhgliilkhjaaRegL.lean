/-
  Registers as linked lists: words for memory; contracts of put, valid, registerOf, list, until.
-/
import Derived.Test.YtanfhgliilkhjaaRegM
import Derived.Deep.LoopGhost
namespace Go.Proofs.Ytanfhgliilkhjaa
open Go.RowKit Go.Deep
set_option linter.unusedVariables false

def nxt (m : Nat) (bs : Nat → Nat) (i : Nat) : Option Addr := if i < m then some ⟨bs i, 0, none⟩ else none
def lst (m : Nat) (bs : Nat → Nat) : Option Addr := if 0 < m then some ⟨bs (m - 1), 0, none⟩ else none
/-- A register at block R: its entries lie in the blocks bs i; all of it from block lo on. -/
def Rg (w : World) (lo R m : Nat) (bs : Nat → Nat) (N : Nat → ND) : Prop :=
  lo ≤ R ∧ Bx w R [.pointer (nxt m bs 0), .pointer (lst m bs), .int .i64 (m : Int)] ∧ (∀ i, i < m → lo ≤ bs i ∧ bs i ≠ R ∧ Bx w (bs i) [.int .i64 (N i).t, .string (N i).s, .pointer (nxt m bs (i + 1))]) ∧ ∀ i j, i < m → j < m → bs i = bs j → i = j
/-- Of the old blocks only those of S may have turned. -/
structure Wr (S : Nat → Prop) (w w' : World) : Prop where
  os : w'.os = w.os
  tape : w'.tape = w.tape
  output : w'.output = w.output
  size : w.heap.size ≤ w'.heap.size
  block : ∀ k, k < w.heap.size → ¬ S k → w'.heap[k]? = w.heap[k]?
section
variable {w w' : World} {lo R m b B : Nat} {bs : Nat → Nat} {N M : Nat → ND} {S : Nat → Prop}
theorem Wr.refl (S : Nat → Prop) (w : World) : Wr S w w := ⟨rfl, rfl, rfl, Nat.le_refl _, fun _ _ _ => rfl⟩
theorem Wr.below (h : Wr S w w') (hB : B ≤ w.heap.size) (hS : ∀ k, S k → B ≤ k) : Below B w w' := ⟨h.os, h.tape, h.output, h.size, fun k hk => h.block k (by omega) (fun x => by have := hS k x; omega)⟩
theorem Wr.of_below (h : Below w.heap.size w w') : Wr S w w' := ⟨h.os, h.tape, h.output, h.size, fun k hk _ => h.block k hk⟩
theorem Wr.trans {a c : World} {S' : Nat → Prop} (h : Wr S a w) (k : Wr S' w c) (hS : ∀ k, k < a.heap.size → S' k → S k) : Wr S a c :=
  ⟨k.os.trans h.os, k.tape.trans h.tape, k.output.trans h.output, Nat.le_trans h.size k.size, fun i hi hn => (k.block i (Nat.lt_of_lt_of_le hi h.size) (fun x => hn (hS i hi x))).trans (h.block i hi hn)⟩
theorem Wr.alloc {a : World} (h : Wr S a w) (o : Obj) : Wr S a (w.alloc o) := ⟨h.os, h.tape, h.output, Nat.le_trans h.size (by simp), fun k hk hn => (blk_alloc_lt _ _ _ (Nat.lt_of_lt_of_le hk h.size)).trans (h.block k hk hn)⟩
theorem Wr.set {a : World} (h : Wr S a w) {q : Addr} (hq : S q.block) (v : Value) : Wr S a (w.setCell q v) :=
  ⟨h.os, h.tape, h.output, by simpa [World.setCell] using h.size, fun k hk hn => (blk_setCell_other _ _ _ _ (fun e => hn (by rw [e]; exact hq))).trans (h.block k hk hn)⟩
theorem Rg.lt (h : Rg w lo R m bs N) : R < w.heap.size ∧ ∀ i, i < m → bs i < w.heap.size := ⟨h.2.1.lt, fun i hi => (h.2.2.1 i hi).2.2.lt⟩
theorem Rg.keep (h : Rg w lo R m bs N) (hR : w'.heap[R]? = w.heap[R]?) (hE : ∀ i, i < m → w'.heap[bs i]? = w.heap[bs i]?) : Rg w' lo R m bs N :=
  ⟨h.1, h.2.1.of hR, fun i hi => ⟨(h.2.2.1 i hi).1, (h.2.2.1 i hi).2.1, (h.2.2.1 i hi).2.2.of (hE i hi)⟩, h.2.2.2⟩
theorem Rg.wr (h : Rg w lo R m bs N) (hw : Wr S w w') (hR : ¬ S R) (hE : ∀ i, i < m → ¬ S (bs i)) : Rg w' lo R m bs N :=
  h.keep (hw.block R h.lt.1 hR) (fun i hi => hw.block _ (h.lt.2 i hi) (hE i hi))
theorem Rg.call (h : Rg w lo R m bs N) (hb : Below w.heap.size w w') : Rg w' lo R m bs N := h.keep (hb.block R h.lt.1) (fun i hi => hb.block _ (h.lt.2 i hi))
theorem Rg.low (h : Rg w lo R m bs N) {l : Nat} (hl : l ≤ lo) : Rg w l R m bs N := ⟨by have := h.1; omega, h.2.1, fun i hi => ⟨by have := (h.2.2.1 i hi).1; omega, (h.2.2.1 i hi).2⟩, h.2.2.2⟩
theorem Rg.congr (h : Rg w lo R m bs N) (e : ∀ i, i < m → N i = M i) : Rg w lo R m bs M := ⟨h.1, h.2.1, fun i hi => by rw [← e i hi]; exact h.2.2.1 i hi, h.2.2.2⟩
/-- The cells of a register. -/
theorem Rg.top (h : Rg w lo R m bs N) : w.cell? ⟨R, 0, none⟩ = some (.pointer (nxt m bs 0)) ∧ w.cell? ⟨R, 1, none⟩ = some (.pointer (lst m bs)) ∧ w.cell? ⟨R, 2, none⟩ = some (.int .i64 (m : Int)) := h.2.1.three.1
theorem Rg.at_ (h : Rg w lo R m bs N) {i : Nat} (hi : i < m) : w.cell? ⟨bs i, 0, none⟩ = some (.int .i64 (N i).t) ∧ w.cell? ⟨bs i, 1, none⟩ = some (.string (N i).s) ∧ w.cell? ⟨bs i, 2, none⟩ = some (.pointer (nxt m bs (i + 1))) := (h.2.2.1 i hi).2.2.three.1
def updB (bs : Nat → Nat) (m b : Nat) : Nat → Nat := fun i => if i = m then b else bs i
def updN (N : Nat → ND) (m : Nat) (x : ND) : Nat → ND := fun i => if i = m then x else N i
theorem nxt_lt {i : Nat} (h : i < m) : nxt m bs i = some ⟨bs i, 0, none⟩ := if_pos h
theorem nxt_ge {i : Nat} (h : m ≤ i) : nxt m bs i = none := if_neg (by omega)
/-- One note more. -/
theorem Rg.add (h : Rg w lo R m bs N) {t : Int} {s : ByteArray} (hb : w.heap.size ≤ b) (hlo : lo ≤ w.heap.size)
    (hR : Bx w' R [.pointer (nxt (m + 1) (updB bs m b) 0), .pointer (some ⟨b, 0, none⟩), .int .i64 ((m : Int) + 1)]) (hB : Bx w' b [.int .i64 t, .string s, .pointer none])
    (hL : ∀ i, i + 1 = m → Bx w' (bs i) [.int .i64 (N i).t, .string (N i).s, .pointer (some ⟨b, 0, none⟩)]) (hk : ∀ i, i + 1 < m → w'.heap[bs i]? = w.heap[bs i]?) : Rg w' lo R (m + 1) (updB bs m b) (updN N m ⟨t, s⟩) := by
  have hlt := h.lt
  obtain ⟨h1, h2, h3, h4⟩ := h
  refine ⟨h1, ?_, fun i hi => ?_, fun i j hi hj e => ?_⟩
  · have e : lst (m + 1) (updB bs m b) = some ⟨b, 0, none⟩ := by unfold lst; rw [if_pos (by omega)]; simp [updB]
    rw [e]
    exact hR
  · unfold updB updN
    by_cases c : i = m
    · subst c
      rw [if_pos rfl, if_pos rfl, nxt_ge (Nat.le_refl _)]
      exact ⟨by omega, by omega, hB⟩
    · rw [if_neg c, if_neg c]
      have q := h3 i (by omega)
      refine ⟨q.1, q.2.1, ?_⟩
      by_cases c2 : i + 1 = m
      · have e : nxt (m + 1) (fun i => if i = m then b else bs i) (i + 1) = some ⟨b, 0, none⟩ := by rw [nxt_lt (by omega), if_pos c2]
        rw [e]; exact hL i c2
      · have e : nxt (m + 1) (fun i => if i = m then b else bs i) (i + 1) = nxt m bs (i + 1) := by rw [nxt_lt (by omega), nxt_lt (by omega), if_neg c2]
        rw [e]; exact q.2.2.of (hk i (by omega))
  · unfold updB at e
    by_cases c : i = m <;> by_cases d : j = m
    · omega
    · rw [if_pos c, if_neg d] at e; have := hlt.2 j (by omega); omega
    · rw [if_neg c, if_pos d] at e; have := hlt.2 i (by omega); omega
    · rw [if_neg c, if_neg d] at e; exact h4 i j (by omega) (by omega) e
end
/-- put's result. -/
def PutRes (w : World) (lo R m : Nat) (bs : Nat → Nat) (N : Nat → ND) (t : Int) (s : ByteArray) (e : Ending) (w' : World) : Prop :=
  e = .returned (.tuple #[]) ∧ ∃ b, w.heap.size ≤ b ∧ Rg w' lo R (m + 1) (updB bs m b) (updN N m ⟨t, s⟩) ∧ Wr (fun k => k = R ∨ (0 < m ∧ k = bs (m - 1))) w w'
set_option maxHeartbeats 1000000 in
theorem iPut0 (lo R : Nat) (bs : Nat → Nat) (N : Nat → ND) (t : Int) (s : ByteArray) (w : World) (h : Rg w lo R 0 bs N) (hlo : lo ≤ w.heap.size) :
    Calls Try.prog 67 #[.pointer (some ⟨R, 0, none⟩), .agg #[.int .i64 t, .string s]] w (PutRes w lo R 0 bs N t s) := by
  have H := Lib.hid h
  have hR := h.2.1
  have e1 : nxt 0 bs 0 = none := rfl
  have e2 : lst 0 bs = none := rfl
  rw [e1, e2] at hR
  obtain ⟨⟨x0, x1, x2⟩, f0, f1, f2⟩ := hR.three
  have lR := hR.lt
  have HR := Lib.hid hR
  clear h hR e1 e2
  go_enter Try.func67, Try.ntmps67
  go_wp2
  go_end0
  have hs : (((((w.setCell ⟨R, 0, none⟩ (.pointer (some ⟨w.heap.size + 1, 0, none⟩))).setCell ⟨R, 1, none⟩ (.pointer (some ⟨w.heap.size + 1, 0, none⟩))).setCell ⟨R, 2, none⟩ (.int .i64 1)).alloc (.cells #[.int .i64 t, .string s] 71)).heap.size) = w.heap.size + 1 := by simp [World.setCell]
  have hN := Bx.new ((((w.setCell ⟨R, 0, none⟩ (.pointer (some ⟨w.heap.size + 1, 0, none⟩))).setCell ⟨R, 1, none⟩ (.pointer (some ⟨w.heap.size + 1, 0, none⟩))).setCell ⟨R, 2, none⟩ (.int .i64 1)).alloc (.cells #[.int .i64 t, .string s] 71)) [.int .i64 t, .string s, .pointer none] 94
  rw [hs] at hN
  refine ⟨rfl, w.heap.size + 1, by omega, H.out.add (by omega) hlo ?_ hN (fun i hi => absurd hi (by omega)) (fun i hi => absurd hi (by omega)), ?_⟩
  · exact (((HR.out.set 0 (.pointer (some ⟨w.heap.size + 1, 0, none⟩))).set 1 (.pointer (some ⟨w.heap.size + 1, 0, none⟩))).set 2 (.int .i64 1)).alloc _ |>.alloc _
  · exact (((((Wr.refl _ w).set (.inl rfl) _).set (.inl rfl) _).set (.inl rfl) _).alloc _).alloc _
set_option maxHeartbeats 1000000 in
theorem iPutS (lo R m : Nat) (bs : Nat → Nat) (N : Nat → ND) (t : Int) (s : ByteArray) (w : World) (h : Rg w lo R (m + 1) bs N) (hlo : lo ≤ w.heap.size) (hm : m ≤ 1099511627776) :
    Calls Try.prog 67 #[.pointer (some ⟨R, 0, none⟩), .agg #[.int .i64 t, .string s]] w (PutRes w lo R (m + 1) bs N t s) := by
  have H := Lib.hid h
  have hR := h.2.1
  have hL := (h.2.2.1 m (by omega))
  have e1 : nxt (m + 1) bs 0 = some ⟨bs 0, 0, none⟩ := nxt_lt (by omega)
  have e2 : lst (m + 1) bs = some ⟨bs m, 0, none⟩ := if_pos (by omega)
  have e3 : nxt (m + 1) bs (m + 1) = none := nxt_ge (Nat.le_refl _)
  rw [e1, e2] at hR
  rw [e3] at hL
  obtain ⟨-, hne, hL⟩ := hL
  obtain ⟨⟨x0, x1, x2⟩, f0, f1, f2⟩ := hR.three
  obtain ⟨⟨y0, y1, y2⟩, k0, k1, k2⟩ := hL.three
  have lR := hR.lt
  have lL := hL.lt
  have HR := Lib.hid hR
  have HL := Lib.hid hL
  clear h hR hL e1 e2 e3 x0 y0 y1 f0 k0 k1
  go_enter Try.func67, Try.ntmps67
  go_wp2
  go_end0
  have hs : (((((w.setCell ⟨bs m, 2, none⟩ (.pointer (some ⟨w.heap.size + 1, 0, none⟩))).setCell ⟨R, 1, none⟩ (.pointer (some ⟨w.heap.size + 1, 0, none⟩))).setCell ⟨R, 2, none⟩ (.int .i64 ((m : Int) + 1 + 1))).alloc (.cells #[.int .i64 t, .string s] 71)).heap.size) = w.heap.size + 1 := by simp [World.setCell]
  have hN := Bx.new ((((w.setCell ⟨bs m, 2, none⟩ (.pointer (some ⟨w.heap.size + 1, 0, none⟩))).setCell ⟨R, 1, none⟩ (.pointer (some ⟨w.heap.size + 1, 0, none⟩))).setCell ⟨R, 2, none⟩ (.int .i64 ((m : Int) + 1 + 1))).alloc (.cells #[.int .i64 t, .string s] 71)) [.int .i64 t, .string s, .pointer none] 94
  rw [hs] at hN
  have e1 : nxt (m + 1 + 1) (updB bs (m + 1) (w.heap.size + 1)) 0 = some ⟨bs 0, 0, none⟩ := by rw [nxt_lt (by omega)]; simp [updB]
  refine ⟨rfl, w.heap.size + 1, by omega, H.out.add (by omega) hlo ?_ hN (fun i hi => ?_) (fun i hi => ?_), ?_⟩
  · rw [e1]
    exact ((((HR.out.other (a := ⟨bs m, 2, none⟩) (by simp; omega) (.pointer (some ⟨w.heap.size + 1, 0, none⟩))).set 1 (.pointer (some ⟨w.heap.size + 1, 0, none⟩))).set 2 (.int .i64 ((m : Int) + 1 + 1))).alloc _).alloc _
  · obtain rfl : i = m := by omega
    exact ((((HL.out.set 2 (.pointer (some ⟨w.heap.size + 1, 0, none⟩))).other (a := ⟨R, 1, none⟩) (by simp; omega) _).other (a := ⟨R, 2, none⟩) (by simp; omega) _).alloc _).alloc _
  · have hi1 : bs i ≠ bs m := fun e => by have := H.out.2.2.2 i m (by omega) (by omega) e; omega
    have hi2 := (H.out.2.2.1 i (by omega)).2.1
    have hi3 := H.out.lt.2 i (by omega)
    have W := (((((Wr.refl (fun k => k = R ∨ k = bs m) w).set (q := ⟨bs m, 2, none⟩) (.inr rfl) (.pointer (some ⟨w.heap.size + 1, 0, none⟩))).set (q := ⟨R, 1, none⟩) (.inl rfl) (.pointer (some ⟨w.heap.size + 1, 0, none⟩))).set (q := ⟨R, 2, none⟩) (.inl rfl) (.int .i64 ((m : Int) + 1 + 1))).alloc (.cells #[.int .i64 t, .string s] 71)).alloc (.cells #[.int .i64 t, .string s, .pointer none] 94)
    exact W.block _ hi3 (fun x => by rcases x with x | x; exact hi2 x; exact hi1 x)
  · exact (((((Wr.refl _ w).set (.inr ⟨by omega, rfl⟩) _).set (.inl rfl) _).set (.inl rfl) _).alloc _).alloc _
theorem iPut (lo R m : Nat) (bs : Nat → Nat) (N : Nat → ND) (t : Int) (s : ByteArray) (w : World) (h : Rg w lo R m bs N) (hlo : lo ≤ w.heap.size) (hm : m ≤ 1099511627776) :
    Calls Try.prog 67 #[.pointer (some ⟨R, 0, none⟩), .agg #[.int .i64 t, .string s]] w (PutRes w lo R m bs N t s) := by
  cases m with
  | zero => exact iPut0 lo R bs N t s w h hlo
  | succ m => exact iPutS lo R m bs N t s w h hlo (by omega)
set_option maxHeartbeats 1000000 in
theorem iRegValid (v : Bool) (lo R m : Nat) (bs : Nat → Nat) (N : Nat → ND) (w : World) (h : Rg w lo R m bs N) (hm : m ≤ 1099511627776) (hv : regV N m = v) :
    Calls Try.prog 68 #[.pointer (some ⟨R, 0, none⟩)] w fun e w' => e = .returned (.bool v) ∧ w' = w := by
  obtain ⟨x0, x1, x2⟩ := h.top
  have H := Lib.hid h
  have V := Lib.hid hv
  by_cases h30 : 30 < m
  · have hr := hide (show v = false by rw [← hv]; exact regV_no (by omega))
    have d : decide ((30 : Int) < (m : Int)) = true := decide_eq_true (by omega)
    clear h hv h30
    go_enter Try.func68, Try.ntmps68
    go_wp2
    go_ret
    exact ⟨ret_bool hr.symm, rfl⟩
  have d : decide ((30 : Int) < (m : Int)) = false := decide_eq_false (by omega)
  clear h hv
  go_enter Try.func68, Try.ntmps68
  go_wp2
  go_loopg [3, 4] m (fun g t p wr => ∃ k : Nat, g + k = m ∧ p = .pointer (nxt m bs k) ∧ t = .int .i64 (prevT N k) ∧ Hid (regP N k) ∧ wr = w)
  case atStart => exact ⟨0, by omega, rfl, rfl, regP_zero _, rfl⟩
  case round =>
    obtain ⟨k, hk, rfl, rfl, hP, rfl⟩ := hrel
    by_cases hlt : k < m
    · obtain ⟨y0, y1, y2⟩ := H.out.at_ hlt
      have en : nxt m bs k = some ⟨bs k, 0, none⟩ := nxt_lt hlt
      rw [en]
      clear en
      by_cases h1 : (N k).t < prevT N k
      · have hr := hide (show v = false by rw [← V.out]; exact regV_no fun x => regP_no hlt (fun y => by omega) x.2)
        have d1 : decide ((N k).t < prevT N k) = true := decide_eq_true h1
        clear h1 y2
        go_wp2
        go_ret
        exact ⟨ret_bool hr.symm, rfl⟩
      have d1 : decide ((N k).t < prevT N k) = false := decide_eq_false h1
      by_cases h2 : 2000 < (N k).t
      · have hr := hide (show v = false by rw [← V.out]; exact regV_no fun x => regP_no hlt (fun y => by omega) x.2)
        have d2 : decide (2000 < (N k).t) = true := decide_eq_true h2
        clear h1 h2 y2
        go_wp2
        go_ret
        exact ⟨ret_bool hr.symm, rfl⟩
      have d2 : decide (2000 < (N k).t) = false := decide_eq_false h2
      cases h3 : isLet (N k).s
      · have hr := hide (show v = false by rw [← V.out]; exact regV_no fun x => regP_no hlt (fun y => by rw [h3] at y; exact absurd y.2.2 (by simp)) x.2)
        have L := Lib.hid h3
        clear h1 h2 h3 y2
        go_wp2_with fail
        refine (iEvent false _ _ L.out).mono ?_
        rintro e w1 ⟨rfl, rfl⟩
        go_wp2
        go_ret
        exact ⟨ret_bool hr.symm, rfl⟩
      · have hst := hide (regP_step hP.out (by omega) (by omega) h3)
        have L := Lib.hid h3
        clear h1 h2 h3
        go_wp2_with fail
        refine (iEvent true _ _ L.out).mono ?_
        rintro e w1 ⟨rfl, rfl⟩
        go_wp2
        go_roundg (gk - 1)
        case measure => omega
        case rel => exact ⟨k + 1, by omega, rfl, rfl, hst, rfl⟩
    · obtain rfl : k = m := by omega
      have en : nxt k bs k = none := nxt_ge (Nat.le_refl _)
      rw [en]
      have hr := hide (show v = true by rw [← V.out]; exact regV_iff.2 ⟨by omega, hP.out⟩)
      go_wp2
      go_ret
      exact ⟨ret_bool hr.symm, rfl⟩
end Go.Proofs.Ytanfhgliilkhjaa
