/-
  A list of things that hold in a world, each with the blocks that it speaks of: how all of them stand behind calls, new blocks, draws, stores.
-/
import Derived.Test.YtjppkcfbhhjniaaPathM
namespace Go.Proofs.Ytjppkcfbhhjniaa
open Go.RowKit Go.Deep

structure Atom where
  lo : Nat
  hi : Nat
  P : World → Prop
/-- What an atom says depends on its blocks alone. -/
def Atom.ok (a : Atom) : Prop := ∀ W W' : World, a.P W → W.heap.size ≤ W'.heap.size → (∀ b, a.lo ≤ b → b < a.hi → W'.heap[b]? = W.heap[b]?) → a.P W'
def Hold (W : World) (l : List Atom) : Prop := ∀ a ∈ l, a.ok ∧ a.hi ≤ W.heap.size ∧ a.P W
section
variable {W W' : World} {l : List Atom} {a : Atom}
theorem Hold.nil (W : World) : Hold W [] := fun _ h => absurd h (by simp)
theorem Hold.cons (h : Hold W l) (h1 : a.ok) (h2 : a.hi ≤ W.heap.size) (h3 : a.P W) : Hold W (a :: l) := fun b hb => by
  rcases List.mem_cons.1 hb with rfl | hb
  · exact ⟨h1, h2, h3⟩
  · exact h b hb
theorem Hold.tl (h : Hold W (a :: l)) : Hold W l := fun b hb => h b (List.mem_cons_of_mem _ hb)
theorem Hold.hd (h : Hold W (a :: l)) : a.P W := (h a (List.mem_cons_self ..)).2.2
theorem Hold.hi (h : Hold W (a :: l)) : a.hi ≤ W.heap.size := (h a (List.mem_cons_self ..)).2.1
theorem Hold.call (h : Hold W l) (hb : Below W.heap.size W W') : Hold W' l := fun b hb1 => by
  obtain ⟨h1, h2, h3⟩ := h b hb1
  exact ⟨h1, Nat.le_trans h2 hb.size, h1 W W' h3 hb.size (fun k _ hk => hb.block k (by omega))⟩
theorem Hold.alloc (h : Hold W l) (o : Obj) : Hold (W.alloc o) l := fun b hb1 => by
  obtain ⟨h1, h2, h3⟩ := h b hb1
  exact ⟨h1, by simp; omega, h1 W _ h3 (by simp) (fun k _ hk => blk_alloc_lt _ _ _ (by omega))⟩
theorem Hold.drew (h : Hold W l) : Hold W.drew l := fun b hb1 => by
  obtain ⟨h1, h2, h3⟩ := h b hb1
  exact ⟨h1, h2, h1 W _ h3 (Nat.le_refl _) (fun k _ hk => rfl)⟩
theorem Hold.drewN (h : Hold W l) (q : Nat) : Hold (W.drewN q) l := fun b hb1 => by
  obtain ⟨h1, h2, h3⟩ := h b hb1
  exact ⟨h1, h2, h1 W _ h3 (Nat.le_refl _) (fun k _ hk => rfl)⟩
/-- All of them speak of blocks below lo or from hi on. -/
def Apart (lo hi : Nat) (l : List Atom) : Prop := ∀ a ∈ l, a.hi ≤ lo ∨ hi ≤ a.lo
theorem Apart.nil (lo hi : Nat) : Apart lo hi [] := fun _ h => absurd h (by simp)
theorem Apart.cons {lo hi : Nat} (h : Apart lo hi l) (h1 : a.hi ≤ lo ∨ hi ≤ a.lo) : Apart lo hi (a :: l) := fun b hb => by
  rcases List.mem_cons.1 hb with rfl | hb
  · exact h1
  · exact h b hb
theorem Hold.mid {lo hi : Nat} (h : Hold W l) (hm : Mid lo hi W W') (ha : Apart lo hi l) : Hold W' l := fun b hb1 => by
  obtain ⟨h1, h2, h3⟩ := h b hb1
  have := ha b hb1
  exact ⟨h1, Nat.le_trans h2 hm.size, h1 W W' h3 hm.size (fun k hk1 hk => hm.block k (by omega) (by omega))⟩
theorem Hold.store {g : Nat} (h : Hold W l) (ha : Apart g (g + 1) l) (i : Nat) (v : Value) : Hold (W.setCell ⟨g, i, none⟩ v) l := fun b hb1 => by
  obtain ⟨h1, h2, h3⟩ := h b hb1
  have := ha b hb1
  exact ⟨h1, by simpa [World.setCell] using h2, h1 W _ h3 (by simp [World.setCell]) (fun k hk1 hk => blk_setCell_other _ _ _ _ (by simp; omega))⟩
theorem Hold.grown {g : Nat} (h : Hold W l) (ha : Apart g (g + 1) l) (hg : W.grownBy W' (some g)) : Hold W' l := fun b hb1 => by
  obtain ⟨h1, h2, h3⟩ := h b hb1
  have := ha b hb1
  exact ⟨h1, Nat.le_trans h2 hg.size, h1 W _ h3 hg.size (fun k hk1 hk => hg.block k (by omega) (fun e => by injection e; omega))⟩
end
/-- A block known whole. -/
def bxA (b : Nat) (l : List Value) : Atom := ⟨b, b + 1, fun W => Bx W b l⟩
theorem bxA_ok (b : Nat) (l : List Value) : (bxA b l).ok := fun _ _ h _ hk => Bx.of h (hk b (Nat.le_refl _) (Nat.lt_succ_self _))
/-- A slice of numbers that is read. -/
def rnA (B : Nat) (A : Option Addr) (n : Nat) (f : Nat → Int) : Atom := ⟨0, B, fun W => Rn W B A n f⟩
theorem rnA_ok (B : Nat) (A : Option Addr) (n : Nat) (f : Nat → Int) : (rnA B A n f).ok := fun _ _ h _ hk => Rn.keep h (fun k hk1 => hk k (Nat.zero_le _) hk1)
/-- A path that a call has made. -/
def opA (lo hi : Nat) (a1 : Option Addr) (n1 : Nat) (f1 : Nat → Int) (a2 : Option Addr) (n2 : Nat) (f2 : Nat → Int) : Atom := ⟨lo, hi, fun W => OwP W lo hi a1 n1 f1 a2 n2 f2⟩
theorem opA_ok (lo hi : Nat) (a1 : Option Addr) (n1 : Nat) (f1 : Nat → Int) (a2 : Option Addr) (n2 : Nat) (f2 : Nat → Int) : (opA lo hi a1 n1 f1 a2 n2 f2).ok := by
  rintro W W' ⟨b1, b2, h1, h2, hne, o1, o2⟩ hs hk
  exact ⟨b1, b2, h1, h2, hne, fun hn => o1.of (hk b1 (h1 hn).1 (h1 hn).2) hs hn, fun hn => o2.of (hk b2 (h2 hn).1 (h2 hn).2) hs hn⟩
/-- A slice of numbers that a call has made. -/
def owA (lo hi : Nat) (A : Option Addr) (n : Nat) (f : Nat → Int) : Atom := ⟨lo, hi, fun W => ∃ b, (0 < n → lo ≤ b ∧ b < hi) ∧ Ow W b A n f⟩
theorem owA_ok (lo hi : Nat) (A : Option Addr) (n : Nat) (f : Nat → Int) : (owA lo hi A n f).ok := by
  rintro W W' ⟨b, h1, o1⟩ hs hk
  exact ⟨b, h1, fun hn => o1.of (hk b (h1 hn).1 (h1 hn).2) hs hn⟩
section
variable {W W' : World} {l : List Atom} {b n n1 n2 B lo hi : Nat} {L : List Value} {f f1 f2 : Nat → Int} {A a1 a2 : Option Addr}
theorem Hold.box (h : Hold W l) (hb : Bx W b L) : Hold W (bxA b L :: l) := h.cons (bxA_ok _ _) hb.lt hb
/-- A new box. -/
theorem Hold.new (h : Hold W l) (L : List Value) (T : TypeId) : Hold (W.alloc (.cells L.toArray T)) (bxA W.heap.size L :: l) := (h.alloc _).box (Bx.new W L T)
theorem Hold.rn (h : Hold W l) (hB : B ≤ W.heap.size) (hr : Rn W B A n f) : Hold W (rnA B A n f :: l) := h.cons (rnA_ok _ _ _ _) hB hr
theorem Hold.op (h : Hold W l) (hB : hi ≤ W.heap.size) (hr : OwP W lo hi a1 n1 f1 a2 n2 f2) : Hold W (opA lo hi a1 n1 f1 a2 n2 f2 :: l) := h.cons (opA_ok _ _ _ _ _ _ _ _) hB hr
theorem Hold.bx2 {x y : Value} (h : Hold W (bxA b [x, y] :: l)) : W.cell? ⟨b, 0, none⟩ = some x ∧ W.cell? ⟨b, 1, none⟩ = some y :=
  ⟨Bx.cell (i := 0) h.hd (by simp), Bx.cell (i := 1) h.hd (by simp)⟩
theorem Hold.rnup (h : Hold W (rnA B A n f :: l)) : Rn W W.heap.size A n f := Rn.up h.hd h.hi
theorem Hold.op1 (h : Hold W (opA lo hi a1 n1 f1 a2 n2 f2 :: l)) : Rn W W.heap.size a1 n1 f1 := OwP.rn1 h.hd
theorem Hold.op2 (h : Hold W (opA lo hi a1 n1 f1 a2 n2 f2 :: l)) : Rn W W.heap.size a2 n2 f2 := OwP.rn2 h.hd
theorem Hold.opP (h : Hold W (opA lo hi a1 n1 f1 a2 n2 f2 :: l)) : OwP W lo hi a1 n1 f1 a2 n2 f2 := h.hd
theorem Hold.bxlt (h : Hold W (bxA b L :: l)) : b < W.heap.size := h.hi
theorem Hold.front1 {a' b' : Atom} (h : Hold W (a' :: b' :: l)) : Hold W (b' :: a' :: l) := fun x hx => h x (by
  simp only [List.mem_cons] at hx ⊢
  rcases hx with h | h | h <;> simp [h])
theorem Hold.front2 {a' b' c' : Atom} (h : Hold W (a' :: b' :: c' :: l)) : Hold W (c' :: a' :: b' :: l) := fun x hx => h x (by
  simp only [List.mem_cons] at hx ⊢
  rcases hx with h | h | h | h <;> simp [h])
theorem Hold.front3 {a' b' c' d' : Atom} (h : Hold W (a' :: b' :: c' :: d' :: l)) : Hold W (d' :: a' :: b' :: c' :: l) := fun x hx => h x (by
  simp only [List.mem_cons] at hx ⊢
  rcases hx with h | h | h | h | h <;> simp [h])
theorem Hold.front4 {a' b' c' d' e' : Atom} (h : Hold W (a' :: b' :: c' :: d' :: e' :: l)) : Hold W (e' :: a' :: b' :: c' :: d' :: l) := fun x hx => h x (by
  simp only [List.mem_cons] at hx ⊢
  rcases hx with h | h | h | h | h | h <;> simp [h])
theorem Hold.front5 {a' b' c' d' e' f' : Atom} (h : Hold W (a' :: b' :: c' :: d' :: e' :: f' :: l)) : Hold W (f' :: a' :: b' :: c' :: d' :: e' :: l) := fun x hx => h x (by
  simp only [List.mem_cons] at hx ⊢
  rcases hx with h | h | h | h | h | h | h <;> simp [h])
theorem Hold.front6 {a' b' c' d' e' f' g' : Atom} (h : Hold W (a' :: b' :: c' :: d' :: e' :: f' :: g' :: l)) : Hold W (g' :: a' :: b' :: c' :: d' :: e' :: f' :: l) := fun x hx => h x (by
  simp only [List.mem_cons] at hx ⊢
  rcases hx with h | h | h | h | h | h | h | h <;> simp [h])
theorem Hold.front7 {a' b' c' d' e' f' g' h' : Atom} (h : Hold W (a' :: b' :: c' :: d' :: e' :: f' :: g' :: h' :: l)) : Hold W (h' :: a' :: b' :: c' :: d' :: e' :: f' :: g' :: l) := fun x hx => h x (by
  simp only [List.mem_cons] at hx ⊢
  rcases hx with h | h | h | h | h | h | h | h | h <;> simp [h])
theorem Hold.front8 {a' b' c' d' e' f' g' h' i' : Atom} (h : Hold W (a' :: b' :: c' :: d' :: e' :: f' :: g' :: h' :: i' :: l)) : Hold W (i' :: a' :: b' :: c' :: d' :: e' :: f' :: g' :: h' :: l) := fun x hx => h x (by
  simp only [List.mem_cons] at hx ⊢
  rcases hx with h | h | h | h | h | h | h | h | h | h <;> simp [h])
theorem Hold.front9 {a' b' c' d' e' f' g' h' i' j' : Atom} (h : Hold W (a' :: b' :: c' :: d' :: e' :: f' :: g' :: h' :: i' :: j' :: l)) : Hold W (j' :: a' :: b' :: c' :: d' :: e' :: f' :: g' :: h' :: i' :: l) := fun x hx => h x (by
  simp only [List.mem_cons] at hx ⊢
  rcases hx with h | h | h | h | h | h | h | h | h | h | h <;> simp [h])
theorem Hold.front10 {a' b' c' d' e' f' g' h' i' j' k' : Atom} (h : Hold W (a' :: b' :: c' :: d' :: e' :: f' :: g' :: h' :: i' :: j' :: k' :: l)) : Hold W (k' :: a' :: b' :: c' :: d' :: e' :: f' :: g' :: h' :: i' :: j' :: l) := fun x hx => h x (by
  simp only [List.mem_cons] at hx ⊢
  rcases hx with h | h | h | h | h | h | h | h | h | h | h | h <;> simp [h])
theorem Hold.front11 {a' b' c' d' e' f' g' h' i' j' k' l' : Atom} (h : Hold W (a' :: b' :: c' :: d' :: e' :: f' :: g' :: h' :: i' :: j' :: k' :: l' :: l)) : Hold W (l' :: a' :: b' :: c' :: d' :: e' :: f' :: g' :: h' :: i' :: j' :: k' :: l) := fun x hx => h x (by
  simp only [List.mem_cons] at hx ⊢
  rcases hx with h | h | h | h | h | h | h | h | h | h | h | h | h <;> simp [h])
end
end Go.Proofs.Ytjppkcfbhhjniaa
