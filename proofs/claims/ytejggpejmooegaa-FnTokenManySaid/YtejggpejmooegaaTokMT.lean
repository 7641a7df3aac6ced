/-
  The state of TokenMany's loops, and how it stands behind each step.
-/
import Derived.Test.YtejggpejmooegaaTokME
import Derived.Test.YtejggpejmooegaaTokV
namespace Go.Proofs.Ytejggpejmooegaa
open Go.RowKit Go.Deep Go.Maps Go.WideMaps
set_option linter.unusedVariables false

/-- What is taken next: the first of l, or none. -/
def Hd (l : List Tk) (c1 c2 c3 : Int) (k : Bool) : Prop := (l = [] ∧ k = false) ∨ (k = true ∧ ∃ r, l = (c1, c2, c3) :: r)
theorem kp_refl (w : World) : w.grownBy w none := gb_refl w none
theorem gb_of_bl {w w' : World} (h : Below w.heap.size w w') (row : Option Nat) : w.grownBy w' row := ⟨h.os, h.tape, h.output, h.size, fun i hi _ => h.block i hi⟩
theorem qTake (Q X : Nat) (l : List Tk) (w : World) (h : TQ w Q X l) (hl : l.length ≤ 1000000000000) :
    Calls Try.prog 68 #[.pointer (some ⟨Q, 0, none⟩)] w fun e w' => ∃ (c1 c2 c3 : Int) (k : Bool), e = .returned (.tuple #[.agg #[.int .i64 c1, .int .i64 c2, .int .i64 c3], .bool k]) ∧ Hd l c1 c2 c3 k ∧ TQ w' Q X l.tail ∧ w.grownBy w' (some Q) := by
  cases l with
  | nil =>
    refine (qTake0 Q X w h).mono ?_
    rintro e w' ⟨rfl, hb⟩
    have hX : X ≤ w.heap.size := by obtain ⟨_, _, _, _, hX, _⟩ := h; exact hX.2
    exact ⟨0, 0, 0, false, rfl, .inl ⟨rfl, rfl⟩, h.keep hb.size fun b hb2 => hb.block b (by omega), gb_of_bl hb _⟩
  | cons s r =>
    obtain ⟨s1, s2, s3⟩ := s
    refine (qTake1 Q X (s1, s2, s3) r w h (by simp at hl; omega)).mono ?_
    rintro e w' ⟨rfl, hT, hg⟩
    exact ⟨s1, s2, s3, true, rfl, .inr ⟨rfl, r, rfl⟩, hT, hg⟩
/-- The map in block B holds the states of l with the numbers v. -/
def MM (w : World) (B : Nat) (l : List Tk) (v : Tk → Nat) : Prop := ∃ M : DataW Unit, w.ownsMap Try.prog 27 (plainElem Try.prog 3) B l.length M ∧ MD M l v
theorem owns_size {w : World} {P : Program} {k : TypeId} {R : Value → Option (DataW Unit × List MemPlace)} {b n : Nat} {M : DataW Unit} (h : w.ownsMap P k R b n M) : w.ownsMap P k R b (Maps.size M) M := by
  obtain ⟨es, clock, hb, F, hs, hD⟩ := h
  refine ⟨es, clock, hb, F, ?_, hD⟩
  rw [hD]
  show es.size ≤ List.length _
  rw [length_sorted]; simp
theorem MM.of {w : World} {B n : Nat} {l : List Tk} {v : Tk → Nat} {M : DataW Unit} (h : w.ownsMap Try.prog 27 (plainElem Try.prog 3) B n M) (hM : MD M l v) : MM w B l v := ⟨M, by have := owns_size h; rw [hM.2.1] at this; exact this, hM⟩
theorem MM.lt {w : World} {B : Nat} {l : List Tk} {v : Tk → Nat} (h : MM w B l v) : B < w.heap.size := by obtain ⟨M, h, _⟩ := h; exact h.lt
theorem MM.keep {w w' : World} {B : Nat} {l : List Tk} {v : Tk → Nat} (h : MM w B l v) (hb : w'.heap[B]? = w.heap[B]?) : MM w' B l v := by
  obtain ⟨M, h, hM⟩ := h
  exact ⟨M, owns_of_block h hb, hM⟩
theorem MM.ne_bx {w : World} {B Q : Nat} {l : List Tk} {v : Tk → Nat} {u : List Value} (h : MM w B l v) (hq : Bx w Q u) : B ≠ Q := by
  rintro rfl
  obtain ⟨M, ⟨es, clock, h, _⟩, _⟩ := h
  obtain ⟨T, hq⟩ := hq
  rw [h] at hq; cases hq
theorem MM.ne_gq {w : World} {B Q : Nat} {R : Option Nat} {l l' : List Tk} {v : Tk → Nat} (h : MM w B l v) (hq : GQ w Q R l') : B ≠ Q ∧ some B ≠ R := by
  obtain ⟨sl, hB, ⟨_, h2⟩, hR⟩ := hq
  refine ⟨h.ne_bx hB, fun e => ?_⟩
  obtain ⟨M, ⟨es, clock, h, _⟩, _⟩ := h
  rw [← hR] at e
  rcases h2 with ⟨hv, hn⟩ | ⟨g, cap, cur, hv, hb, hg, r⟩
  · rw [hv] at e; cases e
  · rw [hv] at e
    have : B = g := by simpa [Value.ownBlock] using e
    subst this
    rw [h] at hg; cases hg
theorem GQ.lt {w : World} {Q : Nat} {R : Option Nat} {l : List Tk} (h : GQ w Q R l) : Q < w.heap.size ∧ ∀ g, R = some g → g < w.heap.size := by
  obtain ⟨sl, hB, ⟨_, h2⟩, hR⟩ := h
  refine ⟨hB.lt, fun g hg => ?_⟩
  rw [← hR] at hg
  rcases h2 with ⟨hv, hn⟩ | ⟨g', cap, cur, hv, hb, hg', r⟩
  · rw [hv] at hg; cases hg
  · rw [hv] at hg
    have : g' = g := by simpa [Value.ownBlock] using hg
    subst this
    exact lt_of_block hg'
theorem TQ.low {w : World} {Q X : Nat} {l : List Tk} (h : TQ w Q X l) : Q < X ∧ X ≤ w.heap.size := by obtain ⟨_, _, _, _, hX, _⟩ := h; exact hX
/-- The memory while a level is taken from (queue Q, map B: below X) and the next is made (queue P, its row R, map C): r is what is left, l' is in the next queue. -/
structure St (w wr : World) (X Q B P C : Nat) (R : Option Nat) (r : List Tk) (l : List Tk) (v : Tk → Nat) (lq l' : List Tk) (v' : Tk → Nat) : Prop where
  below : Below w.heap.size w wr
  lows : w.heap.size ≤ Q ∧ w.heap.size ≤ B ∧ Q < X ∧ B < X
  ups : X ≤ P ∧ X ≤ C ∧ ∀ g, R = some g → X ≤ g
  tq : TQ wr Q X r
  mm : MM wr B l v
  gq : GQ wr P R lq
  mm' : MM wr C l' v'
section
variable {w wr wr' : World} {X Q B P C : Nat} {R : Option Nat} {r l lq l' : List Tk} {v v' : Tk → Nat}
theorem St.wX (h : St w wr X Q B P C R r l v lq l' v') : w.heap.size < X ∧ X ≤ wr.heap.size := ⟨by have := h.lows; omega, h.tq.low.2⟩
/-- What was there stands. -/
theorem St.call (h : St w wr X Q B P C R r l v lq l' v') (hb : Below wr.heap.size wr wr') : St w wr' X Q B P C R r l v lq l' v' :=
  ⟨bl h.below (by have := h.wX; omega) hb, h.lows, h.ups, h.tq.keep hb.size fun b hb2 => hb.block b (by have := h.wX; omega), h.mm.keep (hb.block _ h.mm.lt), h.gq.keep hb.size fun b hb2 _ => hb.block b hb2, h.mm'.keep (hb.block _ h.mm'.lt)⟩
theorem St.alloc (h : St w wr X Q B P C R r l v lq l' v') (o : Obj) : St w (wr.alloc o) X Q B P C R r l v lq l' v' :=
  h.call ((Below.refl _ _).alloc (Nat.le_refl _) o)
theorem St.drew (h : St w wr X Q B P C R r l v lq l' v') : St w wr.drew X Q B P C R r l v lq l' v' :=
  ⟨⟨h.below.os, h.below.tape, h.below.output, h.below.size, h.below.block⟩, h.lows, h.ups, h.tq, h.mm, h.gq, h.mm'⟩
/-- A block that is none of these is written. -/
theorem St.other (h : St w wr X Q B P C R r l v lq l' v') {b : Nat} (hX : X ≤ b) (hP : b ≠ P) (hR : R ≠ some b) (hC : b ≠ C) (hg : wr.grownBy wr' (some b)) : St w wr' X Q B P C R r l v lq l' v' := by
  have hw := h.wX
  have hlo := h.lows
  refine ⟨h.below.grown hg (by omega) (fun k e => by injection e with e; omega), h.lows, h.ups, h.tq.keep hg.size fun k hk => hg.block k (by omega) (fun e => by injection e with e; omega), h.mm.keep (hg.block _ h.mm.lt (fun e => by injection e with e; omega)), h.gq.keep hg.size fun k hk hk2 => hg.block k hk (fun e => ?_), h.mm'.keep (hg.block _ h.mm'.lt (fun e => by injection e with e; omega))⟩
  injection e with e
  rcases hk2 with hk2 | hk2
  · omega
  · exact hR (by rw [← hk2, e])
/-- One more in the next queue. -/
theorem St.put (h : St w wr X Q B P C R r l v lq l' v') {R' : Option Nat} {lq' : List Tk} (hG : GQ wr' P R' lq') (hR : R' = R ∨ ∃ g, R' = some g ∧ wr.heap.size ≤ g) (hK : Kp wr wr' P R) : St w wr' X Q B P C R' r l v lq' l' v' := by
  have hw := h.wX
  have hlo := h.lows
  have hup := h.ups
  have hb : ∀ b, b < wr.heap.size → b < X → wr'.heap[b]? = wr.heap[b]? := fun b hb hX => hK.2.2 b hb (by omega) (fun e => by have := hup.2.2 b e.symm; omega)
  have hn := h.mm'.ne_gq h.gq
  refine ⟨⟨?_, ?_, ?_, ?_, fun b hb2 => (hb b (by omega) (by omega)).trans (h.below.block b hb2)⟩, h.lows, ⟨hup.1, hup.2.1, fun g hg => ?_⟩, h.tq.keep hK.2.1 fun b hb2 => hb b (by omega) hb2, h.mm.keep (hb B h.mm.lt hlo.2.2.2), hG, h.mm'.keep (hK.2.2 C h.mm'.lt hn.1 hn.2)⟩
  · exact hK.1.1.trans h.below.os
  · exact hK.1.2.1.trans h.below.tape
  · exact hK.1.2.2.trans h.below.output
  · have := h.below.size; have := hK.2.1; omega
  · rcases hR with hR | ⟨g', hR, hg'⟩
    · exact hup.2.2 g (hR ▸ hg)
    · rw [hR] at hg; injection hg with hg; omega
/-- The next map is written. -/
theorem St.map (h : St w wr X Q B P C R r l v lq l' v') {l2 : List Tk} {v2 : Tk → Nat} (hg : wr.grownBy wr' (some C)) (hM : MM wr' C l2 v2) : St w wr' X Q B P C R r l v lq l2 v2 := by
  have hw := h.wX
  have hlo := h.lows
  have hup := h.ups
  have hn := h.mm'.ne_gq h.gq
  refine ⟨h.below.grown hg (by omega) (fun k e => by injection e with e; omega), h.lows, h.ups, h.tq.keep hg.size fun k hk => hg.block k (by omega) (fun e => by injection e with e; omega), h.mm.keep (hg.block _ h.mm.lt (fun e => by injection e with e; omega)), h.gq.keep hg.size fun k hk hk2 => hg.block k hk (fun e => ?_), hM⟩
  injection e with e
  rcases hk2 with hk2 | hk2
  · omega
  · exact hn.2 (by rw [← hk2, e])
/-- One is taken. -/
theorem St.take (h : St w wr X Q B P C R r l v lq l' v') {r2 : List Tk} (hT : TQ wr' Q X r2) (hg : wr.grownBy wr' (some Q)) : St w wr' X Q B P C R r2 l v lq l' v' := by
  have hw := h.wX
  have hlo := h.lows
  have hup := h.ups
  have hq : B ≠ Q := by obtain ⟨A, c, hB, _⟩ := h.tq; exact h.mm.ne_bx hB
  refine ⟨h.below.grown hg (by omega) (fun k e => by injection e with e; omega), h.lows, h.ups, hT, h.mm.keep (hg.block _ h.mm.lt (fun e => by injection e with e; omega)), h.gq.keep hg.size fun k hk hk2 => hg.block k hk (fun e => ?_), h.mm'.keep (hg.block _ h.mm'.lt (fun e => by injection e with e; omega))⟩
  injection e with e
  rcases hk2 with hk2 | hk2
  · omega
  · have := hup.2.2 k hk2.symm; omega
end
/-- The memory at the head of the outer loop. -/
structure So (w wr : World) (Q B : Nat) (l : List Tk) (v : Tk → Nat) : Prop where
  below : Below w.heap.size w wr
  lows : w.heap.size ≤ Q ∧ w.heap.size ≤ B
  tq : TQ wr Q wr.heap.size l
  mm : MM wr B l v
/-- The next level begins. -/
theorem So.begin {w wr W : World} {Q B P C : Nat} {l : List Tk} {v v' : Tk → Nat} (h : So w wr Q B l v) (hP : P = wr.heap.size) (hC : C = wr.heap.size + 1) (hb : Below wr.heap.size wr W) (hG : GQ W P none []) (hM : MM W C [] v') : St w W wr.heap.size Q B P C none l l v [] [] v' := by
  subst hP hC
  have h1 := h.tq.low.1
  exact ⟨bl h.below (by have := h.lows; omega) hb, ⟨h.lows.1, h.lows.2, h1, h.mm.lt⟩, ⟨Nat.le_refl _, by omega, fun g hg => by cases hg⟩, h.tq.keep hb.size fun b hb2 => hb.block b hb2, h.mm.keep (hb.block _ h.mm.lt), hG, hM⟩
/-- The next level is done. -/
theorem St.done {w wr : World} {X Q B P C : Nat} {R : Option Nat} {r l l' : List Tk} {v v' : Tk → Nat} (h : St w wr X Q B P C R r l v l' l' v') : So w wr P C l' v' :=
  ⟨h.below, by have := h.wX; have := h.ups; omega, h.gq.toTQ, h.mm'⟩
theorem zeroInt (w : World) : (zeroValue 3).run Try.prog w = .ok (.int .i64 0) w := by kernel_rfl
section
variable {w : World} {B : Nat} {l : List Tk} {v : Tk → Nat} {s : Tk}
theorem MM.look (h : MM w B l v) (hs : s ∈ l) (hv : vk s) : (Instr.lookup 75 (.map (some B)) (tkL s) false).run Try.prog w = .ok (.int .i64 (v s : Int)) w := by
  obtain ⟨M, hown, hM⟩ := h
  obtain ⟨c, hrun, hat, _⟩ := hown.lookup_int lawTok Try.underlying75 Try.underlying3 (zeroInt w) (kf_key hv)
  rw [hM.2.2.2 s hv hs] at hat
  injection hat with hat
  injection hat with _ hat
  rw [hrun, hat]
theorem MM.look_in (h : MM w B l v) (hs : s ∈ l) (hv : vk s) : (Instr.lookup 75 (.map (some B)) (tkL s) true).run Try.prog w = .ok (.tuple #[.int .i64 (v s : Int), .bool true]) w := by
  obtain ⟨M, hown, hM⟩ := h
  obtain ⟨u, ps, hrun, hu⟩ := hown.look_ok lawTok Try.underlying75 (zeroInt w) (plainElem_int Try.underlying3 (a := 0) (by decide)) (kf_key hv)
  obtain ⟨c, rfl, hc, _⟩ := plainElem_int_inv Try.underlying3 hu
  have hat := congrArg Prod.fst hc
  simp only at hat
  rw [hM.2.2.2 s hv hs] at hat
  injection hat with hat
  injection hat with _ hat
  rw [hrun, hat, (hM.2.2.1 s hv).2 hs]
theorem MM.look_no (h : MM w B l v) (hs : s ∉ l) (hv : vk s) : (Instr.lookup 75 (.map (some B)) (tkL s) true).run Try.prog w = .ok (.tuple #[.int .i64 0, .bool false]) w := by
  obtain ⟨M, hown, hM⟩ := h
  obtain ⟨u, ps, hrun, hu⟩ := hown.look_ok lawTok Try.underlying75 (zeroInt w) (plainElem_int Try.underlying3 (a := 0) (by decide)) (kf_key hv)
  obtain ⟨c, rfl, hc, _⟩ := plainElem_int_inv Try.underlying3 hu
  have hat := congrArg Prod.fst hc
  simp only at hat
  rw [(hM.no hv hs).2] at hat
  injection hat with hat
  injection hat with _ hat
  rw [hrun, ← hat, (hM.no hv hs).1]
/-- m[x] += .. : the entry, then its store. -/
theorem MM.entry (h : MM w B l v) (hl : l.length ≤ 4000000000) (hv : vk s) (y : Nat) (l2 : List Tk) (hy : (s ∈ l ∧ y = v s ∧ l2 = l) ∨ (s ∉ l ∧ y = 0 ∧ l2 = l ++ [s])) :
    (Instr.lookup 75 (.map (some B)) (tkL s) false).run Try.prog w = .ok (.int .i64 (y : Int)) w ∧
    ∃ (st : Nat) (w1 : World), (Instr.mapEntry 75 (.map (some B)) (tkL s)).run Try.prog w = .ok (.tuple #[.int .i64 (y : Int), .int .i64 (st : Int)]) w1 ∧ w.grownBy w1 (some B) ∧ w1.heap.size = w.heap.size ∧
      (Instr.lookup 75 (.map (some B)) (tkL s) false).run Try.prog w1 = .ok (.int .i64 (y : Int)) w1 ∧
      ∀ z : Nat, z ≤ 1000000000000 → ∃ w3, (Instr.entryStore 75 (.map (some B)) (.int .i64 (st : Int)) (.int .i64 (z : Int))).run Try.prog w1 = .ok () w3 ∧ w.grownBy w3 (some B) ∧ MM w3 B l2 (upd v s z) := by
  obtain ⟨M, hown, hM⟩ := h
  have hy2 : M.atKey (kf s) (.lit (.int .i64 0)) = .lit (.int .i64 (y : Int)) := by
    rcases hy with ⟨h1, h2, _⟩ | ⟨h1, h2, _⟩
    · rw [h2]; exact hM.2.2.2 s hv h1
    · rw [h2]; exact (hM.no hv h1).2
  have look : ∀ (w : World) (n : Nat) (M : DataW Unit), w.ownsMap Try.prog 27 (plainElem Try.prog 3) B n M → M.atKey (kf s) (.lit (.int .i64 0)) = .lit (.int .i64 (y : Int)) → (Instr.lookup 75 (.map (some B)) (tkL s) false).run Try.prog w = .ok (.int .i64 (y : Int)) w := fun w n M hown hM => by
    obtain ⟨c, hrun, hat, _⟩ := hown.lookup_int lawTok Try.underlying75 Try.underlying3 (zeroInt w) (kf_key hv)
    rw [hM] at hat
    injection hat with hat
    injection hat with _ hat
    rw [hrun, hat]
  obtain ⟨st, w1, M1, h1, h2, h3, h4, h5, h6⟩ := entry_two klTok Try.underlying75 Try.underlying3 zeroInt hown (by unfold maxLen; omega) (kf_key hv) hy2
  refine ⟨look w _ M hown hy2, st, w1, h1, h2, h3, look w1 _ M1 h4 h5, fun z hz => ?_⟩
  obtain ⟨w3, q1, q2, q3⟩ := h6 w1 rfl (z : Int) (WalkArith.wf_i64 (by omega))
  refine ⟨w3, q1, gbT h2 q3, ?_⟩
  rcases hy with ⟨g1, _, rfl⟩ | ⟨g1, _, rfl⟩
  · exact MM.of q2 (hM.in_ hv g1 z)
  · exact MM.of q2 (hM.add hv g1 z)
end
theorem Kp.below {w W W' : World} {B Q : Nat} {R : Option Nat} (h : Below B w W) (hK : Kp W W' Q R) (hQ : B ≤ Q) (hB : B ≤ W.heap.size) (hR : ∀ g, R = some g → B ≤ g) : Below B w W' := by
  refine ⟨hK.1.1.trans h.os, hK.1.2.1.trans h.tape, hK.1.2.2.trans h.output, Nat.le_trans h.size hK.2.1, fun b hb => ?_⟩
  exact (hK.2.2 b (by omega) (by omega) (fun e => by have := hR b e.symm; omega)).trans (h.block b hb)
theorem GQ.grown {w w' : World} {Q : Nat} {R : Option Nat} {l : List Tk} (h : GQ w Q R l) {b : Nat} (hg : w.grownBy w' (some b)) (hQ : Q ≠ b) (hR : R ≠ some b) : GQ w' Q R l :=
  h.keep hg.size fun k hk hk2 => hg.block k hk (fun e => by
    injection e with e
    rcases hk2 with hk2 | hk2
    · omega
    · exact hR (by rw [← hk2, e]))
end Go.Proofs.Ytejggpejmooegaa
