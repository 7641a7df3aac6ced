/-
  Words for memory: what a draw of lists has made.
-/
import Derived.Test.YtanfhgliilkhjaaBkV
import Derived.Test.YtanfhgliilkhjaaDraw1
namespace Go.Proofs.Ytanfhgliilkhjaa
open Go.RowKit Go.Deep
set_option linter.unusedVariables false

/-- The slice (A, n) reads as the numbers f; its cells lie from block lo on. -/
def Rl (w : World) (lo : Nat) (A : Option Addr) (n : Nat) (f : Nat → Int) : Prop :=
  0 < n → ∃ b off, A = some ⟨b, off, none⟩ ∧ lo ≤ b ∧ b < w.heap.size ∧ ∀ i, i < n → w.cell? ⟨b, off + i, none⟩ = some (.int .i64 (f i))
section
variable {w w' : World} {lo n b : Nat} {A : Option Addr} {f : Nat → Int}
theorem Rl.keep (h : Rl w lo A n f) (hs : w.heap.size ≤ w'.heap.size) (hk : ∀ k, lo ≤ k → k < w.heap.size → w'.heap[k]? = w.heap[k]?) : Rl w' lo A n f := fun hn => by
  obtain ⟨b, off, e, h1, h2, hc⟩ := h hn
  exact ⟨b, off, e, h1, by omega, fun i hi => (World.cell?_of_block (w := w) (a := ⟨b, off + i, none⟩) (hk b h1 h2)).trans (hc i hi)⟩
theorem Rl.rn (h : Rl w lo A n f) : Rn w w.heap.size A n f := fun hn => by
  obtain ⟨b, off, e, h1, h2, hc⟩ := h hn
  exact ⟨b, off, e, h2, hc⟩
theorem Rl.low (h : Rl w lo A n f) {l : Nat} (hl : l ≤ lo) : Rl w l A n f := fun hn => by
  obtain ⟨b, off, e, h1, h2, hc⟩ := h hn
  exact ⟨b, off, e, by omega, h2, hc⟩
theorem Rl.call (h : Rl w lo A n f) (hb : Below w.heap.size w w') : Rl w' lo A n f := h.keep hb.size fun k _ hk => hb.block k hk
theorem Rl.alloc (h : Rl w lo A n f) (o : Obj) : Rl (w.alloc o) lo A n f := h.keep (by simp) fun k _ hk => blk_alloc_lt _ _ _ hk
theorem Rl.drewN (h : Rl w lo A n f) (q : Nat) : Rl (w.drewN q) lo A n f := h
theorem Rl.grown (h : Rl w lo A n f) {r : Nat} (hr : r < lo) (hg : w.grownBy w' (some r)) : Rl w' lo A n f := h.keep hg.size fun k h1 h2 => hg.block k h2 (fun e => by injection e; omega)
theorem Rl.store (h : Rl w lo A n f) {a : Addr} (ha : a.block < lo) (v : Value) : Rl (w.setCell a v) lo A n f := h.keep (by simp [World.setCell]) fun k h1 _ => blk_setCell_other _ _ _ _ (by omega)
theorem Rl.of_ow (h : Ow w b A n f) (hb : lo ≤ b) : Rl w lo A n f := fun hn => by
  obtain ⟨off, e, h1, _, hc⟩ := h hn
  exact ⟨b, off, e, hb, h1, hc⟩
/-- One number less at the head. -/
theorem Rl.tail {off : Nat} (h : Rl w lo (some ⟨b, off, none⟩) (n + 1) f) : Rl w lo (some ⟨b, off + 1, none⟩) n (fun i => f (i + 1)) := fun hn => by
  obtain ⟨b', off', e, h1, h2, hc⟩ := h (by omega)
  simp only [Option.some.injEq, Addr.mk.injEq, and_true] at e
  obtain ⟨rfl, rfl⟩ := e
  exact ⟨b, off + 1, rfl, h1, h2, fun i hi => by have := hc (i + 1) (by omega); rwa [show off + (i + 1) = off + 1 + i by omega] at this⟩
end
/-- The same, apart from block g. -/
def Rx (w : World) (lo g : Nat) (A : Option Addr) (n : Nat) (f : Nat → Int) : Prop :=
  0 < n → ∃ b off, A = some ⟨b, off, none⟩ ∧ lo ≤ b ∧ b < w.heap.size ∧ b ≠ g ∧ ∀ i, i < n → w.cell? ⟨b, off + i, none⟩ = some (.int .i64 (f i))
section
variable {w w' : World} {lo g n b : Nat} {A : Option Addr} {f : Nat → Int}
theorem Rx.keep (h : Rx w lo g A n f) (hs : w.heap.size ≤ w'.heap.size) (hk : ∀ k, lo ≤ k → k < w.heap.size → k ≠ g → w'.heap[k]? = w.heap[k]?) : Rx w' lo g A n f := fun hn => by
  obtain ⟨b, off, e, h1, h2, h3, hc⟩ := h hn
  exact ⟨b, off, e, h1, by omega, h3, fun i hi => (World.cell?_of_block (w := w) (a := ⟨b, off + i, none⟩) (hk b h1 h2 h3)).trans (hc i hi)⟩
theorem Rx.rn (h : Rx w lo g A n f) : Rn w w.heap.size A n f := fun hn => by
  obtain ⟨b, off, e, h1, h2, h3, hc⟩ := h hn
  exact ⟨b, off, e, h2, hc⟩
theorem Rx.at_ (h : Rx w lo g A n f) {g' : Nat} (hg : w.heap.size ≤ g') : Rx w lo g' A n f := fun hn => by
  obtain ⟨b, off, e, h1, h2, h3, hc⟩ := h hn
  exact ⟨b, off, e, h1, h2, by omega, hc⟩
theorem Rx.of_rl {l : Nat} (h : Rl w l A n f) (hl : lo ≤ l) (hg : g < l) : Rx w lo g A n f := fun hn => by
  obtain ⟨b, off, e, h1, h2, hc⟩ := h hn
  exact ⟨b, off, e, by omega, h2, by omega, hc⟩
end
theorem Rd.gr {B R p r : Nat} {w w' : World} (h : Rd B w R p) (hg : w.grownBy w' (some r)) (hr : R < r) : Rd B w' R p :=
  h.of (hg.block R h.lt (fun e => by injection e; omega)) (fun k hk => hg.block k (by have := h.lt; have := h.base; omega) (fun e => by have := h.base; injection e; omega))
theorem gb_new {a b c : World} {row : Option Nat} {r : Nat} (h : a.grownBy b row) (k : b.grownBy c (some r)) (hr : a.heap.size ≤ r) : a.grownBy c row :=
  ⟨k.os.trans h.os, k.tape.trans h.tape, k.output.trans h.output, Nat.le_trans h.size k.size, fun i hi hne => (k.block i (Nat.lt_of_lt_of_le hi h.size) (fun e => by injection e; omega)).trans (h.block i hi hne)⟩
theorem gb_store {a b : World} {row : Option Nat} (h : a.grownBy b row) {q : Addr} (hq : a.heap.size ≤ q.block) (u : Value) : a.grownBy (b.setCell q u) row :=
  ⟨h.os, h.tape, h.output, by simpa [World.setCell] using h.size, fun i hi hne => (blk_setCell_other _ _ _ _ (by omega)).trans (h.block i hi hne)⟩
theorem Rx.of_rl0 {w : World} {lo g n l : Nat} {A : Option Addr} {f : Nat → Int} (h : Rl w l A n f) (hl : lo ≤ l) (hg : g < l) : Rx w lo g A n f := Rx.of_rl h hl hg
/-- The lists D, with one more behind the first k. -/
def addL (D : Nat → LD) (k : Nat) (d : LD) : Nat → LD := fun i => if i = k then d else D i
theorem addL_at (D : Nat → LD) (k : Nat) (d : LD) : addL D k d k = d := if_pos rfl
theorem addL_lt {D : Nat → LD} {k i : Nat} {d : LD} (h : i < k) : addL D k d i = D i := if_neg (by omega)
/-- What is known of the cells of a slice of lists. -/
def LsCells (w : World) (lo g k : Nat) (D : Nat → LD) (xs : List Value) : Prop := ∀ i, i < k → ∃ a c, xs[i]? = some (.slice a (D i).n c) ∧ (D i).n ≤ c ∧ Rx w lo g a (D i).n (D i).f
/-- A slice of lists that a draw has made: the row lies in block g, all else apart from it; all from block lo on. -/
def DLs (w : World) (T : TypeId) (lo g k c : Nat) (D : Nat → LD) : Prop :=
  ∃ xs : List Value, w.ownsRow lo T 1 (.slice (some ⟨g, 0, none⟩) k c) k xs ∧ LsCells w lo g k D xs
section
variable {w w' : World} {T lo g k c : Nat} {D : Nat → LD}
theorem DLs.lt (h : DLs w T lo g k c D) : lo ≤ g ∧ g < w.heap.size := by
  obtain ⟨xs, ho, _⟩ := h
  exact ho.lt g rfl
theorem DLs.keep (h : DLs w T lo g k c D) (hs : w.heap.size ≤ w'.heap.size) (hk : ∀ b, lo ≤ b → b < w.heap.size → w'.heap[b]? = w.heap[b]?) : DLs w' T lo g k c D := by
  have hlt := h.lt
  obtain ⟨xs, ⟨h0, ho⟩, h1⟩ := h
  refine ⟨xs, ⟨h0, ?_⟩, fun i hi => ?_⟩
  · rcases ho with hn | ⟨g', cap, cur, hv, hb1, hgg, rest⟩
    · exact .inl hn
    · simp only [Value.slice.injEq, Option.some.injEq, Addr.mk.injEq, and_true, true_and] at hv
      obtain ⟨rfl, rfl⟩ := hv
      exact .inr ⟨g, c, cur, rfl, hb1, (hk g hlt.1 hlt.2).trans hgg, rest⟩
  · obtain ⟨a1, c1, e1, l1, r1⟩ := h1 i hi
    exact ⟨a1, c1, e1, l1, r1.keep hs (fun k a b _ => hk k a b)⟩
theorem DLs.call (h : DLs w T lo g k c D) (hb : Below w.heap.size w w') : DLs w' T lo g k c D := h.keep hb.size fun k _ hk => hb.block k hk
theorem DLs.alloc (h : DLs w T lo g k c D) (o : Obj) : DLs (w.alloc o) T lo g k c D := h.keep (by simp) fun k _ hk => blk_alloc_lt _ _ _ hk
theorem DLs.drewN (h : DLs w T lo g k c D) (q : Nat) : DLs (w.drewN q) T lo g k c D := h
theorem DLs.grown (h : DLs w T lo g k c D) {r : Nat} (hr : r < lo) (hg : w.grownBy w' (some r)) : DLs w' T lo g k c D := h.keep hg.size fun k h1 h2 => hg.block k h2 (fun e => by injection e; omega)
theorem DLs.new0 (w : World) (T lo : Nat) (D : Nat → LD) (hlo : lo ≤ w.heap.size) : DLs (w.alloc (.cells #[] T)) T lo w.heap.size 0 0 D :=
  ⟨[], World.ownsRow_made w #[] 0 hlo (by unfold maxLen; omega) (by simp), fun i hi => absurd hi (by omega)⟩
theorem DLs.rn (h : DLs w T lo g k c D) : SsRn w w.heap.size (some ⟨g, 0, none⟩) k D := fun hn => by
  have hlt := h.lt
  obtain ⟨xs, ho, h1⟩ := h
  refine ⟨g, 0, rfl, hlt.2, fun i hi => ?_⟩
  obtain ⟨a1, c1, e1, _, r1⟩ := h1 i hi
  have z1 := ho.cells (g := g) rfl _ _ e1
  rw [add_at] at z1
  exact ⟨a1, c1, z1, r1.rn⟩
/-- No list is longer than its room. -/
theorem DLs.caps (h : DLs w T lo g k c D) {i : Nat} (hi : i < k) {a : Option Addr} {n c' : Nat} (hc : w.cell? ⟨g, i, none⟩ = some (.slice a n c')) : n ≤ c' := by
  obtain ⟨xs, ho, h1⟩ := h
  obtain ⟨a1, c1, e1, l1, r1⟩ := h1 i hi
  have z1 := ho.cells (g := g) rfl _ _ e1
  rw [add_at, Nat.zero_add, hc] at z1
  injection z1 with z1
  injection z1 with _ e2 e3
  omega
theorem DLs.cap (h : DLs w T lo g k c D) : k ≤ c := by
  obtain ⟨xs, ho, _⟩ := h
  exact (owns_cap ho).1
/-- One more list is in. -/
theorem DLs.put {g' c' n1 c1 : Nat} {a1 : Option Addr} {f1 : Nat → Int} {xs : List Value} (hx : xs.length = k) (h1 : LsCells w lo g k D xs)
    (hc1 : n1 ≤ c1) (r1 : Rx w lo g a1 n1 f1) (ho : w'.ownsRow lo T 1 (.slice (some ⟨g', 0, none⟩) (k + 1) c') (k + 1) (xs ++ [.slice a1 n1 c1])) (hg : g' = g ∨ w.heap.size ≤ g') (hgr : w.grownBy w' (some g)) :
    DLs w' T lo g' (k + 1) c' (addL D k ⟨n1, f1⟩) := by
  have key : ∀ {A : Option Addr} {n : Nat} {f : Nat → Int}, Rx w lo g A n f → Rx w' lo g' A n f := fun r => by
    have r' := r.keep hgr.size (fun k _ hk hne => hgr.block k hk (fun e => hne (by injection e)))
    intro hn
    obtain ⟨b, off, e, h2, h3, h4, hc⟩ := r' hn
    obtain ⟨b0, off0, e0, h20, h30, h40, _⟩ := r hn
    rw [e] at e0
    simp only [Option.some.injEq, Addr.mk.injEq, and_true] at e0
    obtain ⟨rfl, rfl⟩ := e0
    exact ⟨b, off, e, h2, h3, by omega, hc⟩
  refine ⟨_, ho, fun i hi => ?_⟩
  by_cases e : i = k
  · subst e
    rw [addL_at]
    refine ⟨a1, c1, ?_, hc1, key r1⟩
    rw [List.getElem?_append_right (by omega), hx]; simp
  · rw [addL_lt (by omega)]
    obtain ⟨d1, e1, q1, q2, q3⟩ := h1 i (by omega)
    exact ⟨d1, e1, by rw [List.getElem?_append_left (by omega), q1], q2, key q3⟩
end
def lens6 (D : Nat → LD) (k : Nat) : Prop := ∀ t, t < k → (D t).n ≤ 6
theorem lens6_add {D : Nat → LD} {k n1 : Nat} {f1 : Nat → Int} (h : lens6 D k) (h1 : n1 ≤ 6) : lens6 (addL D k ⟨n1, f1⟩) (k + 1) := fun t ht => by
  by_cases e : t = k
  · subst e; rw [addL_at]; exact h1
  · rw [addL_lt (by omega)]; exact h t (by omega)
theorem owns_base {w : World} {base base' e s n : Nat} {v : Value} {xs : List Value} (h : w.ownsRow base e s v n xs) (hb : base' ≤ base) : w.ownsRow base' e s v n xs := by
  refine ⟨h.1, ?_⟩
  rcases h.2 with hn | ⟨g, cap, cur, rfl, hb1, rest⟩
  · exact .inl hn
  · exact .inr ⟨g, cap, cur, rfl, by omega, rest⟩
/-- Numbers as cells (a list of them). -/
def nums (xs : List Int) : List Value := xs.map (Value.int .i64)
theorem nums_len (xs : List Int) : (nums xs).length = xs.length := by simp [nums]
theorem nums_at {xs : List Int} {i : Nat} (h : i < xs.length) : (nums xs)[i]? = some (.int .i64 (xs.getD i 0)) := by
  simp [nums, List.getD, h]
theorem nums_snoc (xs : List Int) (x : Int) : nums (xs ++ [x]) = nums xs ++ [.int .i64 x] := by simp [nums]
/-- A list of numbers that a draw has made. -/
def DI (w : World) (T : TypeId) (lo g n c : Nat) (l : List Int) : Prop := w.ownsRow lo T 1 (.slice (some ⟨g, 0, none⟩) n c) n (nums l) ∧ l.length = n
section
variable {w w' : World} {T lo g n c : Nat} {l : List Int}
theorem DI.lt (h : DI w T lo g n c l) : lo ≤ g ∧ g < w.heap.size := h.1.lt g rfl
theorem DI.cap (h : DI w T lo g n c l) : n ≤ c ∧ c ≤ maxLen := ⟨(owns_cap h.1).1, (owns_cap h.1).2.1⟩
theorem DI.kept (h : DI w T lo g n c l) {r : Nat} (hg : w.grownBy w' (some r)) (hr : g ≠ r) : DI w' T lo g n c l := ⟨h.1.kept hg (.inr (by simp [Value.ownBlock]; omega)), h.2⟩
theorem DI.alloc (h : DI w T lo g n c l) (o : Obj) : DI (w.alloc o) T lo g n c l := ⟨h.1.alloc o, h.2⟩
theorem DI.call (h : DI w T lo g n c l) (hb : Below w.heap.size w w') : DI w' T lo g n c l := ⟨owns_call h.1 hb, h.2⟩
theorem DI.low (h : DI w T lo g n c l) {lo' : Nat} (hl : lo' ≤ lo) : DI w T lo' g n c l := ⟨owns_base h.1 hl, h.2⟩
theorem DI.rl (h : DI w T lo g n c l) : Rl w lo (some ⟨g, 0, none⟩) n (fun i => l.getD i 0) := fun hn =>
  ⟨g, 0, rfl, h.lt.1, h.lt.2, fun i hi => by
    have := h.1.cells (g := g) rfl i _ (nums_at (by rw [h.2]; exact hi))
    rwa [add_at] at this⟩
theorem DI.rn (h : DI w T lo g n c l) : Rn w w.heap.size (some ⟨g, 0, none⟩) n (fun i => l.getD i 0) := h.rl.rn
theorem DI.new0 (w : World) (T lo : Nat) (hlo : lo ≤ w.heap.size) : DI (w.alloc (.cells #[] T)) T lo w.heap.size 0 0 [] :=
  ⟨World.ownsRow_made w #[] 0 hlo (by unfold maxLen; omega) (by simp), rfl⟩
/-- A store into a list of numbers. -/
theorem DI.set (h : DI w T lo g n c l) {k : Nat} (hk : k < n) (x : Int) : DI (w.setCell ⟨g, k, none⟩ (.int .i64 x)) T lo g n c (l.set k x) := by
  obtain ⟨⟨h0, h1⟩, h2⟩ := h
  refine ⟨⟨by rw [nums_len, List.length_set]; omega, ?_⟩, by rw [List.length_set]; exact h2⟩
  rcases h1 with ⟨hn, _⟩ | ⟨g', cap, cur, hv, hb1, hgg, r1, r2, r3, r4⟩
  · cases hn
  · simp only [Value.slice.injEq, Option.some.injEq, Addr.mk.injEq, and_true, true_and] at hv
    obtain ⟨rfl, rfl⟩ := hv
    have hlt := lt_of_block hgg
    refine .inr ⟨g, c, cur.set! k (.int .i64 x), rfl, hb1, ?_, r1, r2, by simpa using r3, ?_⟩
    · have h' : w.heap[g] = .cells cur T (0, 0) := by simpa [Array.getElem?_eq_getElem hlt] using hgg
      show (w.heap.modify g _)[g]? = _
      rw [Array.getElem?_eq_getElem (by simpa using hlt), Array.getElem_modify_self, h']
      simp
    · have : (cur.set! k (.int .i64 x)).toList = cur.toList.set k (.int .i64 x) := by simp
      rw [this, List.take_set, r4]
      simp [nums, List.map_set]
end
/-- A row given in a literal, cut to its first n cells. -/
theorem DI.lit (w : World) (T lo : Nat) (hlo : lo ≤ w.heap.size) (l : List Int) (n : Nat) (hn : n ≤ l.length) (hm : l.length ≤ 1000) : DI (w.alloc (.cells (nums l).toArray T)) T lo w.heap.size n l.length (l.take n) := by
  refine ⟨⟨by rw [nums_len, List.length_take]; omega, .inr ⟨w.heap.size, l.length, _, rfl, hlo, blk_alloc_new _ _, hn, by unfold maxLen; omega, by simp [nums], ?_⟩⟩, by rw [List.length_take]; omega⟩
  simp [nums, List.map_take]
end Go.Proofs.Ytanfhgliilkhjaa
