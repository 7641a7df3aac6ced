/-
  Plain functions on lists of bytes and numbers, beside the chapter on tokens and staffs, and their laws. No program in sight.
-/
import Derived.WalkKit
import Derived.Below
import Derived.OneCell
import Derived.Deep.Heap
import Derived.Handy
import Derived.Laws.AppendOwn
import Derived.Laws.BitsAllLaws
import Derived.Laws.BitsLemmas
import Derived.Deep.Draws
import Derived.ChangeSame
import Derived.OpenShut
import Derived.Deep.OwnRows

namespace Go.Proofs.Ytanfhgliilkhjaa
open Go.RowKit

theorem ret_int {k : IntKind} {a b : Int} (h : a = b) : Ending.returned (.int k a) = .returned (.int k b) := by rw [h]
theorem ret_bool {a b : Bool} (h : a = b) : Ending.returned (.bool a) = .returned (.bool b) := by rw [h]
theorem hide {p : Prop} (h : p) : Hid p := h

/-- A byte that is U or D. -/
def isUD (c : UInt8) : Bool := c == 85 || c == 68
/-- A text that are directions. -/
def dirsV (l : List UInt8) : Bool := decide (l.length ≤ 30) && l.all isUD

theorem take_snoc (s : ByteArray) (k : Nat) (h : k < s.size) : s.data.toList.take (k + 1) = s.data.toList.take k ++ [s[k]] := by
  rw [List.take_succ_eq_append_getElem (by simpa using h)]; rfl
theorem take_all (s : ByteArray) : s.data.toList.take s.size = s.data.toList := List.take_of_length_le (by simp)

theorem isUD_iff (c : UInt8) : isUD c = true ↔ ((c.toNat : Int) = 85 ∨ (c.toNat : Int) = 68) := by
  unfold isUD
  simp only [Bool.or_eq_true, beq_iff_eq, ← UInt8.toNat_inj, UInt8.reduceToNat]
  omega
theorem isUD_no (c : UInt8) (h : ¬ ((c.toNat : Int) = 85 ∨ (c.toNat : Int) = 68)) : isUD c = false := by
  rw [← isUD_iff] at h; simpa using h
theorem mem_at {s : ByteArray} {k : Nat} (h : k < s.size) : s[k] ∈ s.data.toList := by
  have : s[k] = s.data.toList[k]'(by simpa using h) := rfl
  rw [this]; exact List.getElem_mem _
theorem ud_step {s : ByteArray} {k : Nat} (h : k < s.size) (hU : Hid ((s.data.toList.take k).all isUD = true)) (hc : (s[k].toNat : Int) = 85 ∨ (s[k].toNat : Int) = 68) : Hid ((s.data.toList.take (k + 1)).all isUD = true) := by
  rw [take_snoc s k h]
  have h1 : (s.data.toList.take k).all isUD = true := hU
  have h2 := (isUD_iff s[k]).2 hc
  simp only [Hid, List.all_append, h1, List.all_cons, h2, List.all_nil, Bool.and_self]
theorem ud_no {s : ByteArray} {k : Nat} (h : k < s.size) (hc : ¬ ((s[k].toNat : Int) = 85 ∨ (s[k].toNat : Int) = 68)) : dirsV s.data.toList = false := by
  unfold dirsV
  rw [Bool.and_eq_false_iff]; right
  rw [List.all_eq_false]
  exact ⟨_, mem_at h, by simp [isUD_no _ hc]⟩
theorem ud_all {s : ByteArray} (hU : Hid ((s.data.toList.take s.size).all isUD = true)) : dirsV s.data.toList = decide ((s.size : Int) ≤ 30) := by
  have h1 : (s.data.toList.take s.size).all isUD = true := hU
  rw [take_all] at h1
  unfold dirsV
  rw [h1, Bool.and_true]
  have : s.data.toList.length = s.size := by simp
  rw [this]; congr 1; simp; omega
theorem ud_long {s : ByteArray} (h : 30 < s.size) : dirsV s.data.toList = false := by
  unfold dirsV
  have : s.data.toList.length = s.size := by simp
  rw [this]; simp; omega
theorem dirs_len {s : ByteArray} (h : dirsV s.data.toList = true) : s.size ≤ 30 := by
  unfold dirsV at h
  have : s.data.toList.length = s.size := by simp
  rw [this] at h; simp at h; omega
theorem dirs_at {s : ByteArray} (h : dirsV s.data.toList = true) {k : Nat} (hk : k < s.size) : (s[k].toNat : Int) = 85 ∨ (s[k].toNat : Int) = 68 := by
  unfold dirsV at h
  simp only [Bool.and_eq_true, List.all_eq_true] at h
  exact (isUD_iff _).1 (h.2 _ (mem_at hk))

/-- How often the letter changes. -/
def chg : List UInt8 → Nat
  | a :: b :: r => (if a = b then 0 else 1) + chg (b :: r)
  | _ => 0
theorem chg_snoc (l : List UInt8) (a b : UInt8) : chg (l ++ [a, b]) = chg (l ++ [a]) + if a = b then 0 else 1 := by
  induction l with
  | nil => simp [chg]
  | cons x t ih =>
    cases t with
    | nil => simp [chg]
    | cons y t => simp only [List.cons_append, chg] at ih ⊢; rw [ih]; omega
theorem chg_le (l : List UInt8) : chg l ≤ l.length := by
  induction l with
  | nil => simp [chg]
  | cons x t ih =>
    cases t with
    | nil => simp [chg]
    | cons y t => simp only [chg, List.length_cons] at ih ⊢; split <;> omega
theorem chg_take (s : ByteArray) (k : Nat) (h : k + 1 < s.size) : chg (s.data.toList.take (k + 2)) = chg (s.data.toList.take (k + 1)) + if s[k] = s[k + 1] then 0 else 1 := by
  rw [take_snoc s (k + 1) h, take_snoc s k (by omega), List.append_assoc]
  exact chg_snoc _ _ _
theorem chg_all (s : ByteArray) (k : Nat) (h : s.size ≤ k) : chg (s.data.toList.take k) = chg s.data.toList := by
  rw [List.take_of_length_le (by simpa using h)]
/-- DirectionsChanges. -/
def chgZ (l : List UInt8) : Int := if dirsV l = true then (chg l : Int) else -1
theorem chgZ_yes {l : List UInt8} (h : dirsV l = true) : chgZ l = chg l := if_pos h
theorem chgZ_no {l : List UInt8} (h : dirsV l = false) : chgZ l = -1 := if_neg (by simp [h])
theorem chg_none (l : List UInt8) : chg (l.take 1) = 0 := by
  cases l <;> simp [chg]
theorem byte_eq {a b : UInt8} (h : a = b) : ((a.toNat : Int) != (b.toNat : Int)) = false := by subst h; simp
theorem byte_ne {a b : UInt8} (h : ¬ a = b) : ((a.toNat : Int) != (b.toNat : Int)) = true := by
  rw [bne_iff_ne]; intro e; apply h; rw [← UInt8.toNat_inj]; omega
end Go.Proofs.Ytanfhgliilkhjaa

/-
  Words for memory: a block known whole; how it stands behind new blocks, draws, stores, calls.
-/
namespace Go.Proofs.Ytanfhgliilkhjaa
open Go.RowKit Go.Deep

/-- Block B holds these cells; none is frozen. -/
def Bx (w : World) (B : Nat) (l : List Value) : Prop := ∃ T, w.heap[B]? = some (.cells l.toArray T (0, 0))
section
variable {w w' : World} {B N : Nat} {l : List Value}
theorem Bx.lt (h : Bx w B l) : B < w.heap.size := by obtain ⟨T, h⟩ := h; exact lt_of_block h
theorem Bx.cell (h : Bx w B l) {i : Nat} (hi : i < l.length) : w.cell? ⟨B, i, none⟩ = some l[i] := by
  obtain ⟨T, h⟩ := h
  simp [World.cell?, h, hi]
theorem Bx.frz (h : Bx w B l) (i : Nat) : w.frozen? ⟨B, i, none⟩ = false := by
  obtain ⟨T, h⟩ := h
  simp [World.frozen?, h]
theorem Bx.of (h : Bx w B l) (e : w'.heap[B]? = w.heap[B]?) : Bx w' B l := by
  obtain ⟨T, h⟩ := h
  exact ⟨T, e.trans h⟩
theorem Bx.alloc (h : Bx w B l) (o : Obj) : Bx (w.alloc o) B l := h.of (blk_alloc_lt _ _ _ h.lt)
theorem Bx.drew (h : Bx w B l) : Bx w.drew B l := h
theorem Bx.below (h : Bx w B l) (hb : Below N w w') (hB : B < N) : Bx w' B l := h.of (hb.block B hB)
theorem Bx.call (h : Bx w B l) (hb : Below w.heap.size w w') : Bx w' B l := h.below hb h.lt
theorem Bx.other (h : Bx w B l) {a : Addr} (ha : B ≠ a.block) (v : Value) : Bx (w.setCell a v) B l := h.of (blk_setCell_other _ _ _ _ ha)
theorem Bx.set (h : Bx w B l) (i : Nat) (v : Value) : Bx (w.setCell ⟨B, i, none⟩ v) B (l.set i v) := by
  have hlt := h.lt
  obtain ⟨T, h⟩ := h
  refine ⟨T, ?_⟩
  have h' : w.heap[B] = .cells l.toArray T (0, 0) := by simpa [Array.getElem?_eq_getElem hlt] using h
  show (w.heap.modify B _)[B]? = _
  rw [Array.getElem?_eq_getElem (by simpa using hlt), Array.getElem_modify_self, h']
  simp
theorem Bx.new (w : World) (l : List Value) (T : TypeId) : Bx (w.alloc (.cells l.toArray T)) w.heap.size l := ⟨T, blk_alloc_new _ _⟩
/-- Three cells. -/
theorem Bx.three {x y z : Value} (h : Bx w B [x, y, z]) : (w.cell? ⟨B, 0, none⟩ = some x ∧ w.cell? ⟨B, 1, none⟩ = some y ∧ w.cell? ⟨B, 2, none⟩ = some z) ∧ (w.frozen? ⟨B, 0, none⟩ = false ∧ w.frozen? ⟨B, 1, none⟩ = false ∧ w.frozen? ⟨B, 2, none⟩ = false) :=
  ⟨⟨h.cell (i := 0) (by simp), h.cell (i := 1) (by simp), h.cell (i := 2) (by simp)⟩, h.frz 0, h.frz 1, h.frz 2⟩
theorem Bx.set3 {x y z x' y' z' : Value} (h : Bx w B [x, y, z]) : Bx (((w.setCell ⟨B, 0, none⟩ x').setCell ⟨B, 1, none⟩ y').setCell ⟨B, 2, none⟩ z') B [x', y', z'] :=
  ((h.set 0 x').set 1 y').set 2 z'
theorem Bx.other3 (h : Bx w B l) {C : Nat} (hC : B ≠ C) (x y z : Value) : Bx (((w.setCell ⟨C, 0, none⟩ x).setCell ⟨C, 1, none⟩ y).setCell ⟨C, 2, none⟩ z) B l :=
  ((h.other (a := ⟨C, 0, none⟩) hC x).other (a := ⟨C, 1, none⟩) hC y).other (a := ⟨C, 2, none⟩) hC z
end
end Go.Proofs.Ytanfhgliilkhjaa

/-
  Words for the reader of a code: what it holds, how it stands behind new blocks, stores and calls.
-/
namespace Go.Proofs.Ytanfhgliilkhjaa
open Go.RowKit Go.Deep

/-- The bytes that a reader reads lie below block B. -/
def BytesAt (B : Nat) (w : World) (A : Option Addr) (n : Nat) : Prop :=
  0 < n → ∃ b off, A = some ⟨b, off, none⟩ ∧ b < B ∧ ∀ i, i < n → ∃ v : Nat, v < 256 ∧ w.cell? ⟨b, off + i, none⟩ = some (.int .u8 (v : Int))
/-- The reader in block R: p places have been read. -/
def Rd (B : Nat) (w : World) (R p : Nat) : Prop := ∃ A n c, Bx w R [.slice A n c, .int .i64 (p : Int)] ∧ n ≤ 2000 ∧ BytesAt B w A n ∧ B ≤ R
section
variable {B R S p n : Nat} {w w' w0 : World} {A : Option Addr}
theorem BytesAt.keep (h : BytesAt B w A n) (hk : ∀ k, k < B → w'.heap[k]? = w.heap[k]?) : BytesAt B w' A n := fun hn => by
  obtain ⟨b, off, e, hb, hc⟩ := h hn
  exact ⟨b, off, e, hb, fun i hi => by
    obtain ⟨v, hv, hcc⟩ := hc i hi
    exact ⟨v, hv, (World.cell?_of_block (a := ⟨b, off + i, none⟩) (hk b hb)).trans hcc⟩⟩
theorem BytesAt.less (h : BytesAt B w A n) {m : Nat} (hm : m ≤ n) : BytesAt B w A m := fun hn => by
  obtain ⟨b, off, e, hb, hc⟩ := h (by omega)
  exact ⟨b, off, e, hb, fun i hi => hc i (by omega)⟩
theorem Rd.lt (h : Rd B w R p) : R < w.heap.size := by obtain ⟨_, _, _, hx, _⟩ := h; exact hx.lt
theorem Rd.base (h : Rd B w R p) : B ≤ R := by obtain ⟨_, _, _, _, _, _, hB⟩ := h; exact hB
theorem Rd.of (h : Rd B w R p) (hR : w'.heap[R]? = w.heap[R]?) (hk : ∀ k, k < B → w'.heap[k]? = w.heap[k]?) : Rd B w' R p := by
  obtain ⟨A, n, c, hx, hn, hb, hB⟩ := h
  exact ⟨A, n, c, hx.of hR, hn, hb.keep hk, hB⟩
theorem Rd.alloc (h : Rd B w R p) (o : Obj) : Rd B (w.alloc o) R p :=
  h.of (blk_alloc_lt _ _ _ h.lt) (fun k hk => blk_alloc_lt _ _ _ (by have := h.lt; have := h.base; omega))
theorem Rd.drew (h : Rd B w R p) : Rd B w.drew R p := h
theorem Rd.drewN (h : Rd B w R p) (q : Nat) : Rd B (w.drewN q) R p := h
theorem Rd.other (h : Rd B w R p) {a : Addr} (h1 : R ≠ a.block) (h2 : B ≤ a.block) (v : Value) : Rd B (w.setCell a v) R p :=
  h.of (blk_setCell_other _ _ _ _ h1) (fun k hk => blk_setCell_other _ _ _ _ (by omega))
theorem Rd.call (h : Rd B w R p) (hb : Below w.heap.size w w') : Rd B w' R p :=
  h.of (hb.block R h.lt) (fun k hk => hb.block k (by have := h.lt; have := h.base; omega))
theorem Bx.grown {l : List Value} {K : Nat} (h : Bx w K l) {row : Option Nat} (hg : w.grownBy w' row) (hne : some K ≠ row) : Bx w' K l := h.of (hg.block K h.lt hne)
theorem gb_bl (h : Below B w0 w) (hB : B ≤ w.heap.size) (hR : B ≤ R) (hg : w.grownBy w' (some R)) : Below B w0 w' := h.grown hg hB (fun k e => by injection e with e; omega)
theorem gb_trans {a b c : World} (h : a.grownBy b (some R)) (k : b.grownBy c (some R)) : a.grownBy c (some R) :=
  ⟨k.os.trans h.os, k.tape.trans h.tape, k.output.trans h.output, Nat.le_trans h.size k.size, fun i hi hne => (k.block i (Nat.lt_of_lt_of_le hi h.size) hne).trans (h.block i hi hne)⟩
theorem gb_refl (w : World) (row : Option Nat) : w.grownBy w row := ⟨rfl, rfl, rfl, Nat.le_refl _, fun _ _ _ => rfl⟩
theorem gb_below {a b c : World} {row : Option Nat} (h : a.grownBy b row) (k : Below b.heap.size b c) : a.grownBy c row :=
  ⟨k.os.trans h.os, k.tape.trans h.tape, k.output.trans h.output, Nat.le_trans h.size k.size, fun i hi hne => (k.block i (Nat.lt_of_lt_of_le hi h.size)).trans (h.block i hi hne)⟩
theorem gb_alloc {a b : World} {row : Option Nat} (h : a.grownBy b row) (o : Obj) : a.grownBy (b.alloc o) row :=
  ⟨h.os, h.tape, h.output, Nat.le_trans h.size (by simp), fun i hi hne => (blk_alloc_lt _ _ _ (Nat.lt_of_lt_of_le hi h.size)).trans (h.block i hi hne)⟩
theorem gb_drew {a b : World} {row : Option Nat} (h : a.grownBy b row) : a.grownBy b.drew row := ⟨h.os, h.tape, h.output, h.size, h.block⟩
theorem gb_drewN {a b : World} {row : Option Nat} (h : a.grownBy b row) (q : Nat) : a.grownBy (b.drewN q) row := ⟨h.os, h.tape, h.output, h.size, h.block⟩
/-- A store into the reader, or into a block that is new since a. -/
theorem gb_setCell {a b : World} (h : a.grownBy b (some R)) {q : Addr} (hq : q.block = R ∨ a.heap.size ≤ q.block) (u : Value) : a.grownBy (b.setCell q u) (some R) :=
  ⟨h.os, h.tape, h.output, by simpa [World.setCell] using h.size, fun i hi hne => (blk_setCell_other _ _ _ _ (by
    rcases hq with hq | hq
    · exact fun e => hne (by rw [e, hq])
    · omega)).trans (h.block i hi hne)⟩
theorem Rd.step {A : Option Addr} {n c : Nat} (h : Bx w R [.slice A n c, .int .i64 (p : Int)]) (hn : n ≤ 2000) (hb : BytesAt B w A n) (hB : B ≤ R) {q : Nat} : Rd B (w.setCell ⟨R, 1, none⟩ (.int .i64 (q : Int))) R q :=
  ⟨A, n, c, h.set 1 _, hn, hb.keep (fun k hk => blk_setCell_other _ _ _ _ (by simp; omega)), hB⟩
end
theorem tmod_bd {x n : Int} (h : 0 ≤ x) (hn : 1 ≤ n) : 0 ≤ x.tmod n ∧ x.tmod n < n := by
  rw [Int.tmod_eq_emod_of_nonneg h]
  exact ⟨Int.emod_nonneg _ (by omega), Int.emod_lt_of_pos _ (by omega)⟩
theorem ofInt_i64 (a : Nat) (ha : a < 9223372036854775808) : (BitVec.ofInt 64 (a : Int)).toNat = a := by
  rw [BitVec.ofInt_natCast, BitVec.toNat_ofNat]; exact Nat.mod_eq_of_lt (by omega)
theorem xor_nonneg (x y : Int) (hx : 0 ≤ x) (hy : 0 ≤ y) (hx2 : x < 9223372036854775808) (hy2 : y < 9223372036854775808) : 0 ≤ bits .xor .i64 x y := by
  obtain ⟨a, rfl⟩ := Int.eq_ofNat_of_zero_le hx
  obtain ⟨b, rfl⟩ := Int.eq_ofNat_of_zero_le hy
  have hz : a ^^^ b < 2 ^ 63 := Nat.xor_lt_two_pow (by omega) (by omega)
  show 0 ≤ IntKind.i64.wrap ((BitVec.ofInt 64 (a : Int) ^^^ BitVec.ofInt 64 (b : Int)).toNat : Int)
  rw [BitVec.toNat_xor, ofInt_i64 a (by omega), ofInt_i64 b (by omega), IntKind.wrap_i64]
  omega
/-- What the frame of a law tells of a slice of numbers that came in. -/
def IsRow (k : IntKind) (w : World) (a : Option Addr) (len cap : Nat) (zs : List Int) : Prop :=
  (a = none ∧ len = 0 ∧ cap = 0 ∧ zs = []) ∨
  ∃ x, a = some x ∧ len ≤ cap ∧ cap ≤ maxLen ∧ zs.length = cap ∧ (∀ i, i < zs.length → w.cell? (x.add i) = some (.int k (zs.getD i 0))) ∧ ∀ n ∈ zs, (Lit.int k n).wf = true
theorem IsRow.bytes {w : World} {a : Option Addr} {len cap : Nat} {zs : List Int} (h : IsRow .u8 w a len cap zs) : BytesAt w.heap.size w a len ∧ len ≤ cap ∧ cap ≤ 9223372036854775807 := by
  rcases h with ⟨rfl, rfl, rfl, rfl⟩ | ⟨x, rfl, h1, h2, h3, h4, h5⟩
  · exact ⟨fun h => absurd h (by omega), by omega, by omega⟩
  refine ⟨fun hn => ?_, h1, by unfold maxLen at h2; omega⟩
  obtain ⟨b, off, spot⟩ := x
  have hc := h4 0 (by omega)
  have hspot : spot = none := by simpa [Addr.add] using World.cell?_spot hc
  subst hspot
  refine ⟨b, off, rfl, World.block_lt_of_cell? w _ (by simpa [Addr.add] using hc), fun i hi => ?_⟩
  have hi2 : i < zs.length := by omega
  have hci := h4 i hi2
  have hw := h5 (zs.getD i 0) (by rw [List.getD_eq_getElem?_getD, List.getElem?_eq_getElem hi2]; exact List.getElem_mem hi2)
  have hbd := bounds_u8 hw
  obtain ⟨v, hv⟩ := Int.eq_ofNat_of_zero_le hbd.1
  refine ⟨v, by omega, ?_⟩
  rw [hv] at hci
  have he : (⟨b, off, none⟩ : Addr).add i = ⟨b, off + i, none⟩ := by unfold Addr.add; split <;> simp_all
  rw [← he]; exact hci
/-- What a pick leaves. -/
def PickPost (B : Nat) (w : World) (R p : Nat) (n : Int) (e : Ending) (w' : World) : Prop := ∃ v : Int, e = .returned (.int .i64 v) ∧ 0 ≤ v ∧ v < n ∧ Rd B w' R (p + 1) ∧ w.grownBy w' (some R)
end Go.Proofs.Ytanfhgliilkhjaa

/-
  Words for memory, beside the chapter on paths: a slice of numbers that is read; one that the call itself has made; how both stand behind new blocks, draws, stores, calls.
-/
namespace Go.Proofs.Ytanfhgliilkhjaa
open Go.RowKit Go.Deep

/-- The slice (A, n) reads as the numbers f; its cells lie below block B. -/
def Rn (w : World) (B : Nat) (A : Option Addr) (n : Nat) (f : Nat → Int) : Prop :=
  0 < n → ∃ b off, A = some ⟨b, off, none⟩ ∧ b < B ∧ ∀ i, i < n → w.cell? ⟨b, off + i, none⟩ = some (.int .i64 (f i))
/-- The slice (A, n) reads as the numbers f; its cells lie in block b and may be written. -/
def Ow (w : World) (b : Nat) (A : Option Addr) (n : Nat) (f : Nat → Int) : Prop :=
  0 < n → ∃ off, A = some ⟨b, off, none⟩ ∧ b < w.heap.size ∧ (∀ i, w.frozen? ⟨b, i, none⟩ = false) ∧ ∀ i, i < n → w.cell? ⟨b, off + i, none⟩ = some (.int .i64 (f i))
section
variable {B b n : Nat} {w w' : World} {A : Option Addr} {f g : Nat → Int}
theorem Rn.keep (h : Rn w B A n f) (hk : ∀ k, k < B → w'.heap[k]? = w.heap[k]?) : Rn w' B A n f := fun hn => by
  obtain ⟨b, off, e, hb, hc⟩ := h hn
  exact ⟨b, off, e, hb, fun i hi => (World.cell?_of_block (a := ⟨b, off + i, none⟩) (hk b hb)).trans (hc i hi)⟩
theorem Rn.up (h : Rn w B A n f) {C : Nat} (hC : B ≤ C) : Rn w C A n f := fun hn => by
  obtain ⟨b, off, e, hb, hc⟩ := h hn
  exact ⟨b, off, e, by omega, hc⟩
theorem Rn.below (h : Rn w B A n f) (hb : Below B w w') : Rn w' B A n f := h.keep hb.block
theorem Rn.call (h : Rn w B A n f) (hB : B ≤ w.heap.size) (hb : Below w.heap.size w w') : Rn w' B A n f := h.below (hb.mono hB)
theorem Rn.alloc (h : Rn w B A n f) (hB : B ≤ w.heap.size) (o : Obj) : Rn (w.alloc o) B A n f := h.keep fun _ hk => blk_alloc_lt _ _ _ (by omega)
theorem Rn.drew (h : Rn w B A n f) : Rn w.drew B A n f := h
theorem Rn.drewN (h : Rn w B A n f) (q : Nat) : Rn (w.drewN q) B A n f := h
theorem Rn.store (h : Rn w B A n f) {a : Addr} (ha : B ≤ a.block) (v : Value) : Rn (w.setCell a v) B A n f := h.keep fun _ hk => blk_setCell_other _ _ _ _ (by omega)
theorem Rn.grown (h : Rn w B A n f) (hB : B ≤ w.heap.size) {r : Nat} (hr : B ≤ r) (hg : w.grownBy w' (some r)) : Rn w' B A n f := h.keep fun k hk => hg.block k (by omega) (fun e => by injection e; omega)
theorem Rn.congr (h : Rn w B A n f) (e : ∀ i, i < n → f i = g i) : Rn w B A n g := fun hn => by
  obtain ⟨b, off, e1, hb, hc⟩ := h hn
  exact ⟨b, off, e1, hb, fun i hi => by rw [hc i hi, e i hi]⟩
theorem Rn.less (h : Rn w B A n f) {m : Nat} (hm : m ≤ n) : Rn w B A m f := fun hn => by
  obtain ⟨b, off, e1, hb, hc⟩ := h (by omega)
  exact ⟨b, off, e1, hb, fun i hi => hc i (by omega)⟩
theorem Rn.top (h : Rn w w.heap.size A n f) (o : Obj) : Rn (w.alloc o) (w.alloc o).heap.size A n f := (h.alloc (Nat.le_refl _) _).up (by simp)
theorem Rn.top2 (h : Rn w w.heap.size A n f) (o p : Obj) : Rn ((w.alloc o).alloc p) ((w.alloc o).alloc p).heap.size A n f := (h.top o).top p
theorem Rn.topd (h : Rn w w.heap.size A n f) : Rn w.drew w.drew.heap.size A n f := h
theorem Rn.topq (h : Rn w w.heap.size A n f) (q : Nat) : Rn (w.drewN q) (w.drewN q).heap.size A n f := h
theorem Rn.topb (h : Rn w w.heap.size A n f) (hb : Below w.heap.size w w') : Rn w' w'.heap.size A n f := (h.below hb).up hb.size
theorem Rn.nil (w : World) (B : Nat) (A : Option Addr) (f : Nat → Int) : Rn w B A 0 f := fun h => absurd h (by omega)
theorem Ow.nil (w : World) (B : Nat) (A : Option Addr) (f : Nat → Int) : Ow w B A 0 f := fun h => absurd h (by omega)
theorem Ow.rn (h : Ow w b A n f) (hb : b < B) : Rn w B A n f := fun hn => by
  obtain ⟨off, e, _, _, hc⟩ := h hn
  exact ⟨b, off, e, hb, hc⟩
theorem Ow.of (h : Ow w b A n f) (e : w'.heap[b]? = w.heap[b]?) (hs : w.heap.size ≤ w'.heap.size) : Ow w' b A n f := fun hn => by
  obtain ⟨off, e1, hb, hf, hc⟩ := h hn
  exact ⟨off, e1, by omega, fun i => (World.frozen?_of_block (w := w) (a := ⟨b, i, none⟩) e).trans (hf i), fun i hi => (World.cell?_of_block (w := w) (a := ⟨b, off + i, none⟩) e).trans (hc i hi)⟩
theorem Ow.alloc (h : Ow w b A n f) (o : Obj) : Ow (w.alloc o) b A n f := fun hn => by
  obtain ⟨_, _, hb, _⟩ := h hn
  exact h.of (blk_alloc_lt _ _ _ hb) (by simp) hn
theorem Ow.drew (h : Ow w b A n f) : Ow w.drew b A n f := h
theorem Ow.drewN (h : Ow w b A n f) (q : Nat) : Ow (w.drewN q) b A n f := h
theorem Ow.call (h : Ow w b A n f) (hb : Below w.heap.size w w') : Ow w' b A n f := fun hn => by
  obtain ⟨_, _, hb1, _⟩ := h hn
  exact h.of (hb.block b hb1) hb.size hn
theorem Ow.store (h : Ow w b A n f) {a : Addr} (ha : b ≠ a.block) (v : Value) : Ow (w.setCell a v) b A n f := h.of (blk_setCell_other _ _ _ _ ha) (by simp [World.setCell])
theorem Ow.grown (h : Ow w b A n f) {r : Nat} (hr : b ≠ r) (hg : w.grownBy w' (some r)) : Ow w' b A n f := fun hn => by
  obtain ⟨_, _, hb1, _⟩ := h hn
  exact h.of (hg.block b hb1 (fun e => by injection e; omega)) hg.size hn
theorem Ow.congr (h : Ow w b A n f) (e : ∀ i, i < n → f i = g i) : Ow w b A n g := fun hn => by
  obtain ⟨off, e1, hb, hf, hc⟩ := h hn
  exact ⟨off, e1, hb, hf, fun i hi => by rw [hc i hi, e i hi]⟩
theorem Ow.set {off k : Nat} {v : Int} (h : Ow w b (some ⟨b, off, none⟩) n f) : Ow (w.setCell ⟨b, off + k, none⟩ (.int .i64 v)) b (some ⟨b, off, none⟩) n (fun i => if i = k then v else f i) := fun hn => by
  obtain ⟨off', e1, hb, hf, hc⟩ := h hn
  simp only [Option.some.injEq, Addr.mk.injEq, true_and, and_true] at e1
  subst e1
  refine ⟨off, rfl, by simpa [World.setCell] using hb, fun i => by simpa using hf i, fun i hi => ?_⟩
  by_cases e : i = k
  · subst e
    show _ = some (Value.int .i64 (if i = i then v else f i))
    rw [if_pos rfl]
    exact World.cell?_setCell_same _ _ _ (hc i hi)
  · show _ = some (Value.int .i64 (if i = k then v else f i))
    rw [if_neg e, World.cell?_setCell_other _ _ _ _ (fun x => e (by simp only [Addr.mk.injEq, true_and, and_true] at x; omega))]
    exact hc i hi
theorem Ow.of_row {T m : Nat} (h : w.rowIs b T m (fun i => .int .i64 (f i))) (hn : n ≤ m) : Ow w b (some ⟨b, 0, none⟩) n f := fun h0 =>
  ⟨0, rfl, h.lt, fun i => h.frozen i, fun i hi => by rw [Nat.zero_add]; exact h.cell (by omega)⟩
theorem undrew (h : Below w.drew.heap.size w.drew w') : Below w.heap.size w w' := ⟨h.os, h.tape, h.output, h.size, h.block⟩
theorem undrewN {q : Nat} (h : Below (w.drewN q).heap.size (w.drewN q) w') : Below w.heap.size w w' := ⟨h.os, h.tape, h.output, h.size, h.block⟩
/-- Only blocks from lo on and below hi have turned. -/
structure Mid (lo hi : Nat) (w w' : World) : Prop where
  os : w'.os = w.os
  tape : w'.tape = w.tape
  output : w'.output = w.output
  size : w.heap.size ≤ w'.heap.size
  block : ∀ k, k < w.heap.size → (k < lo ∨ hi ≤ k) → w'.heap[k]? = w.heap[k]?
theorem Mid.refl (lo hi : Nat) (w : World) : Mid lo hi w w := ⟨rfl, rfl, rfl, Nat.le_refl _, fun _ _ _ => rfl⟩
theorem Mid.trans {lo hi : Nat} {a b c : World} (h : Mid lo hi a b) (k : Mid lo hi b c) : Mid lo hi a c :=
  ⟨k.os.trans h.os, k.tape.trans h.tape, k.output.trans h.output, Nat.le_trans h.size k.size, fun i hi hh => (k.block i (Nat.lt_of_lt_of_le hi h.size) hh).trans (h.block i hi hh)⟩
theorem Mid.below {lo hi B : Nat} (h : Mid lo hi w w') (hB : B ≤ lo) (hw : B ≤ w.heap.size) : Below B w w' := ⟨h.os, h.tape, h.output, h.size, fun k hk => h.block k (by omega) (.inl (by omega))⟩
theorem Mid.of_below {lo hi : Nat} (h : Below w.heap.size w w') : Mid lo hi w w' := ⟨h.os, h.tape, h.output, h.size, fun k hk _ => h.block k hk⟩
theorem Mid.of_grown {lo hi r : Nat} (h : w.grownBy w' (some r)) (h1 : lo ≤ r) (h2 : r < hi) : Mid lo hi w w' := ⟨h.os, h.tape, h.output, h.size, fun k hk hh => h.block k hk (fun e => by injection e; omega)⟩
theorem Ow.mid {lo hi : Nat} (h : Ow w b A n f) (hm : Mid lo hi w w') (hb : b < lo ∨ hi ≤ b) : Ow w' b A n f := fun hn => by
  obtain ⟨_, _, hb1, _⟩ := h hn
  exact h.of (hm.block b hb1 hb) hm.size hn
theorem Rn.mid {lo hi : Nat} (h : Rn w B A n f) (hB : B ≤ w.heap.size) (hm : Mid lo hi w w') (hb : B ≤ lo) : Rn w' B A n f := h.keep fun k hk => hm.block k (by omega) (.inl (by omega))
/-- A path that a call has made: its two slices lie in two blocks of their own, from lo on and below hi. -/
def OwP (w : World) (lo hi : Nat) (a1 : Option Addr) (n1 : Nat) (f1 : Nat → Int) (a2 : Option Addr) (n2 : Nat) (f2 : Nat → Int) : Prop :=
  ∃ b1 b2, (0 < n1 → lo ≤ b1 ∧ b1 < hi) ∧ (0 < n2 → lo ≤ b2 ∧ b2 < hi) ∧ b1 ≠ b2 ∧ Ow w b1 a1 n1 f1 ∧ Ow w b2 a2 n2 f2
section
variable {lo hi n1 n2 : Nat} {a1 a2 : Option Addr} {f1 f2 : Nat → Int}
theorem OwP.call (h : OwP w lo hi a1 n1 f1 a2 n2 f2) (hb : Below w.heap.size w w') : OwP w' lo hi a1 n1 f1 a2 n2 f2 := by
  obtain ⟨b1, b2, h1, h2, hne, o1, o2⟩ := h
  exact ⟨b1, b2, h1, h2, hne, o1.call hb, o2.call hb⟩
theorem OwP.alloc (h : OwP w lo hi a1 n1 f1 a2 n2 f2) (o : Obj) : OwP (w.alloc o) lo hi a1 n1 f1 a2 n2 f2 := by
  obtain ⟨b1, b2, h1, h2, hne, o1, o2⟩ := h
  exact ⟨b1, b2, h1, h2, hne, o1.alloc _, o2.alloc _⟩
theorem OwP.drew (h : OwP w lo hi a1 n1 f1 a2 n2 f2) : OwP w.drew lo hi a1 n1 f1 a2 n2 f2 := h
theorem OwP.drewN (h : OwP w lo hi a1 n1 f1 a2 n2 f2) (q : Nat) : OwP (w.drewN q) lo hi a1 n1 f1 a2 n2 f2 := h
theorem OwP.mid (h : OwP w lo hi a1 n1 f1 a2 n2 f2) {l2 h2 : Nat} (hm : Mid l2 h2 w w') (hh : hi ≤ l2 ∨ h2 ≤ lo) : OwP w' lo hi a1 n1 f1 a2 n2 f2 := by
  obtain ⟨b1, b2, h1, h2, hne, o1, o2⟩ := h
  refine ⟨b1, b2, h1, h2, hne, fun hn => ?_, fun hn => ?_⟩
  · have := h1 hn; exact o1.mid hm (by omega) hn
  · have := h2 hn; exact o2.mid hm (by omega) hn
theorem OwP.rn1 (h : OwP w lo hi a1 n1 f1 a2 n2 f2) : Rn w w.heap.size a1 n1 f1 := by
  obtain ⟨b1, b2, h1, h2, hne, o1, o2⟩ := h
  exact fun hn => by obtain ⟨_, _, hb, _⟩ := o1 hn; exact o1.rn hb hn
theorem OwP.rn2 (h : OwP w lo hi a1 n1 f1 a2 n2 f2) : Rn w w.heap.size a2 n2 f2 := by
  obtain ⟨b1, b2, h1, h2, hne, o1, o2⟩ := h
  exact fun hn => by obtain ⟨_, _, hb, _⟩ := o2 hn; exact o2.rn hb hn
theorem OwP.up (h : OwP w lo hi a1 n1 f1 a2 n2 f2) {l h' : Nat} (hl : l ≤ lo) (hh : hi ≤ h') : OwP w l h' a1 n1 f1 a2 n2 f2 := by
  obtain ⟨b1, b2, h1, h2, hne, o1, o2⟩ := h
  exact ⟨b1, b2, fun x => by have := h1 x; omega, fun x => by have := h2 x; omega, hne, o1, o2⟩
theorem OwP.nil (w : World) (lo hi : Nat) (a1 a2 : Option Addr) (f1 f2 : Nat → Int) : OwP w lo hi a1 0 f1 a2 0 f2 := ⟨0, 1, fun h => absurd h (by omega), fun h => absurd h (by omega), by omega, Ow.nil _ _ _ _, Ow.nil _ _ _ _⟩
end
end
end Go.Proofs.Ytanfhgliilkhjaa

/-
  A list of things that hold in a world, each with the blocks that it speaks of: how all of them stand behind calls, new blocks, draws, stores.
-/
namespace Go.Proofs.Ytanfhgliilkhjaa
open Go.RowKit Go.Deep

structure Atom where
  lo : Nat
  hi : Nat
  P : World → Prop
/-- What an atom says depends on its blocks alone. -/
def Atom.ok (a : Atom) : Prop := ∀ W W' : World, a.P W → W.heap.size ≤ W'.heap.size → (∀ b, a.lo ≤ b → b < a.hi → W'.heap[b]? = W.heap[b]?) → a.P W'
def Hold (W : World) (l : List Atom) : Prop := ∀ a ∈ l, a.ok ∧ a.hi ≤ W.heap.size ∧ a.P W
section
variable {W W' : World} {l : List Atom} {a : Atom}
theorem Hold.nil (W : World) : Hold W [] := fun _ h => absurd h (by simp)
theorem Hold.cons (h : Hold W l) (h1 : a.ok) (h2 : a.hi ≤ W.heap.size) (h3 : a.P W) : Hold W (a :: l) := fun b hb => by
  rcases List.mem_cons.1 hb with rfl | hb
  · exact ⟨h1, h2, h3⟩
  · exact h b hb
theorem Hold.tl (h : Hold W (a :: l)) : Hold W l := fun b hb => h b (List.mem_cons_of_mem _ hb)
theorem Hold.hd (h : Hold W (a :: l)) : a.P W := (h a (List.mem_cons_self ..)).2.2
theorem Hold.hi (h : Hold W (a :: l)) : a.hi ≤ W.heap.size := (h a (List.mem_cons_self ..)).2.1
theorem Hold.call (h : Hold W l) (hb : Below W.heap.size W W') : Hold W' l := fun b hb1 => by
  obtain ⟨h1, h2, h3⟩ := h b hb1
  exact ⟨h1, Nat.le_trans h2 hb.size, h1 W W' h3 hb.size (fun k _ hk => hb.block k (by omega))⟩
theorem Hold.alloc (h : Hold W l) (o : Obj) : Hold (W.alloc o) l := fun b hb1 => by
  obtain ⟨h1, h2, h3⟩ := h b hb1
  exact ⟨h1, by simp; omega, h1 W _ h3 (by simp) (fun k _ hk => blk_alloc_lt _ _ _ (by omega))⟩
theorem Hold.drew (h : Hold W l) : Hold W.drew l := fun b hb1 => by
  obtain ⟨h1, h2, h3⟩ := h b hb1
  exact ⟨h1, h2, h1 W _ h3 (Nat.le_refl _) (fun k _ hk => rfl)⟩
theorem Hold.drewN (h : Hold W l) (q : Nat) : Hold (W.drewN q) l := fun b hb1 => by
  obtain ⟨h1, h2, h3⟩ := h b hb1
  exact ⟨h1, h2, h1 W _ h3 (Nat.le_refl _) (fun k _ hk => rfl)⟩
/-- All of them speak of blocks below lo or from hi on. -/
def Apart (lo hi : Nat) (l : List Atom) : Prop := ∀ a ∈ l, a.hi ≤ lo ∨ hi ≤ a.lo
theorem Apart.nil (lo hi : Nat) : Apart lo hi [] := fun _ h => absurd h (by simp)
theorem Apart.cons {lo hi : Nat} (h : Apart lo hi l) (h1 : a.hi ≤ lo ∨ hi ≤ a.lo) : Apart lo hi (a :: l) := fun b hb => by
  rcases List.mem_cons.1 hb with rfl | hb
  · exact h1
  · exact h b hb
theorem Hold.mid {lo hi : Nat} (h : Hold W l) (hm : Mid lo hi W W') (ha : Apart lo hi l) : Hold W' l := fun b hb1 => by
  obtain ⟨h1, h2, h3⟩ := h b hb1
  have := ha b hb1
  exact ⟨h1, Nat.le_trans h2 hm.size, h1 W W' h3 hm.size (fun k hk1 hk => hm.block k (by omega) (by omega))⟩
theorem Hold.store {g : Nat} (h : Hold W l) (ha : Apart g (g + 1) l) (i : Nat) (v : Value) : Hold (W.setCell ⟨g, i, none⟩ v) l := fun b hb1 => by
  obtain ⟨h1, h2, h3⟩ := h b hb1
  have := ha b hb1
  exact ⟨h1, by simpa [World.setCell] using h2, h1 W _ h3 (by simp [World.setCell]) (fun k hk1 hk => blk_setCell_other _ _ _ _ (by simp; omega))⟩
theorem Hold.grown {g : Nat} (h : Hold W l) (ha : Apart g (g + 1) l) (hg : W.grownBy W' (some g)) : Hold W' l := fun b hb1 => by
  obtain ⟨h1, h2, h3⟩ := h b hb1
  have := ha b hb1
  exact ⟨h1, Nat.le_trans h2 hg.size, h1 W _ h3 hg.size (fun k hk1 hk => hg.block k (by omega) (fun e => by injection e; omega))⟩
end
/-- A block known whole. -/
def bxA (b : Nat) (l : List Value) : Atom := ⟨b, b + 1, fun W => Bx W b l⟩
theorem bxA_ok (b : Nat) (l : List Value) : (bxA b l).ok := fun _ _ h _ hk => Bx.of h (hk b (Nat.le_refl _) (Nat.lt_succ_self _))
/-- A slice of numbers that is read. -/
def rnA (B : Nat) (A : Option Addr) (n : Nat) (f : Nat → Int) : Atom := ⟨0, B, fun W => Rn W B A n f⟩
theorem rnA_ok (B : Nat) (A : Option Addr) (n : Nat) (f : Nat → Int) : (rnA B A n f).ok := fun _ _ h _ hk => Rn.keep h (fun k hk1 => hk k (Nat.zero_le _) hk1)
/-- A path that a call has made. -/
def opA (lo hi : Nat) (a1 : Option Addr) (n1 : Nat) (f1 : Nat → Int) (a2 : Option Addr) (n2 : Nat) (f2 : Nat → Int) : Atom := ⟨lo, hi, fun W => OwP W lo hi a1 n1 f1 a2 n2 f2⟩
theorem opA_ok (lo hi : Nat) (a1 : Option Addr) (n1 : Nat) (f1 : Nat → Int) (a2 : Option Addr) (n2 : Nat) (f2 : Nat → Int) : (opA lo hi a1 n1 f1 a2 n2 f2).ok := by
  rintro W W' ⟨b1, b2, h1, h2, hne, o1, o2⟩ hs hk
  exact ⟨b1, b2, h1, h2, hne, fun hn => o1.of (hk b1 (h1 hn).1 (h1 hn).2) hs hn, fun hn => o2.of (hk b2 (h2 hn).1 (h2 hn).2) hs hn⟩
/-- A slice of numbers that a call has made. -/
def owA (lo hi : Nat) (A : Option Addr) (n : Nat) (f : Nat → Int) : Atom := ⟨lo, hi, fun W => ∃ b, (0 < n → lo ≤ b ∧ b < hi) ∧ Ow W b A n f⟩
theorem owA_ok (lo hi : Nat) (A : Option Addr) (n : Nat) (f : Nat → Int) : (owA lo hi A n f).ok := by
  rintro W W' ⟨b, h1, o1⟩ hs hk
  exact ⟨b, h1, fun hn => o1.of (hk b (h1 hn).1 (h1 hn).2) hs hn⟩
section
variable {W W' : World} {l : List Atom} {b n n1 n2 B lo hi : Nat} {L : List Value} {f f1 f2 : Nat → Int} {A a1 a2 : Option Addr}
theorem Hold.box (h : Hold W l) (hb : Bx W b L) : Hold W (bxA b L :: l) := h.cons (bxA_ok _ _) hb.lt hb
/-- A new box. -/
theorem Hold.new (h : Hold W l) (L : List Value) (T : TypeId) : Hold (W.alloc (.cells L.toArray T)) (bxA W.heap.size L :: l) := (h.alloc _).box (Bx.new W L T)
theorem Hold.rn (h : Hold W l) (hB : B ≤ W.heap.size) (hr : Rn W B A n f) : Hold W (rnA B A n f :: l) := h.cons (rnA_ok _ _ _ _) hB hr
theorem Hold.op (h : Hold W l) (hB : hi ≤ W.heap.size) (hr : OwP W lo hi a1 n1 f1 a2 n2 f2) : Hold W (opA lo hi a1 n1 f1 a2 n2 f2 :: l) := h.cons (opA_ok _ _ _ _ _ _ _ _) hB hr
theorem Hold.bx2 {x y : Value} (h : Hold W (bxA b [x, y] :: l)) : W.cell? ⟨b, 0, none⟩ = some x ∧ W.cell? ⟨b, 1, none⟩ = some y :=
  ⟨Bx.cell (i := 0) h.hd (by simp), Bx.cell (i := 1) h.hd (by simp)⟩
theorem Hold.rnup (h : Hold W (rnA B A n f :: l)) : Rn W W.heap.size A n f := Rn.up h.hd h.hi
theorem Hold.op1 (h : Hold W (opA lo hi a1 n1 f1 a2 n2 f2 :: l)) : Rn W W.heap.size a1 n1 f1 := OwP.rn1 h.hd
theorem Hold.op2 (h : Hold W (opA lo hi a1 n1 f1 a2 n2 f2 :: l)) : Rn W W.heap.size a2 n2 f2 := OwP.rn2 h.hd
theorem Hold.opP (h : Hold W (opA lo hi a1 n1 f1 a2 n2 f2 :: l)) : OwP W lo hi a1 n1 f1 a2 n2 f2 := h.hd
theorem Hold.bxlt (h : Hold W (bxA b L :: l)) : b < W.heap.size := h.hi
theorem Hold.front1 {a' b' : Atom} (h : Hold W (a' :: b' :: l)) : Hold W (b' :: a' :: l) := fun x hx => h x (by
  simp only [List.mem_cons] at hx ⊢
  rcases hx with h | h | h <;> simp [h])
theorem Hold.front2 {a' b' c' : Atom} (h : Hold W (a' :: b' :: c' :: l)) : Hold W (c' :: a' :: b' :: l) := fun x hx => h x (by
  simp only [List.mem_cons] at hx ⊢
  rcases hx with h | h | h | h <;> simp [h])
theorem Hold.front3 {a' b' c' d' : Atom} (h : Hold W (a' :: b' :: c' :: d' :: l)) : Hold W (d' :: a' :: b' :: c' :: l) := fun x hx => h x (by
  simp only [List.mem_cons] at hx ⊢
  rcases hx with h | h | h | h | h <;> simp [h])
theorem Hold.front4 {a' b' c' d' e' : Atom} (h : Hold W (a' :: b' :: c' :: d' :: e' :: l)) : Hold W (e' :: a' :: b' :: c' :: d' :: l) := fun x hx => h x (by
  simp only [List.mem_cons] at hx ⊢
  rcases hx with h | h | h | h | h | h <;> simp [h])
theorem Hold.front5 {a' b' c' d' e' f' : Atom} (h : Hold W (a' :: b' :: c' :: d' :: e' :: f' :: l)) : Hold W (f' :: a' :: b' :: c' :: d' :: e' :: l) := fun x hx => h x (by
  simp only [List.mem_cons] at hx ⊢
  rcases hx with h | h | h | h | h | h | h <;> simp [h])
theorem Hold.front6 {a' b' c' d' e' f' g' : Atom} (h : Hold W (a' :: b' :: c' :: d' :: e' :: f' :: g' :: l)) : Hold W (g' :: a' :: b' :: c' :: d' :: e' :: f' :: l) := fun x hx => h x (by
  simp only [List.mem_cons] at hx ⊢
  rcases hx with h | h | h | h | h | h | h | h <;> simp [h])
theorem Hold.front7 {a' b' c' d' e' f' g' h' : Atom} (h : Hold W (a' :: b' :: c' :: d' :: e' :: f' :: g' :: h' :: l)) : Hold W (h' :: a' :: b' :: c' :: d' :: e' :: f' :: g' :: l) := fun x hx => h x (by
  simp only [List.mem_cons] at hx ⊢
  rcases hx with h | h | h | h | h | h | h | h | h <;> simp [h])
theorem Hold.front8 {a' b' c' d' e' f' g' h' i' : Atom} (h : Hold W (a' :: b' :: c' :: d' :: e' :: f' :: g' :: h' :: i' :: l)) : Hold W (i' :: a' :: b' :: c' :: d' :: e' :: f' :: g' :: h' :: l) := fun x hx => h x (by
  simp only [List.mem_cons] at hx ⊢
  rcases hx with h | h | h | h | h | h | h | h | h | h <;> simp [h])
theorem Hold.front9 {a' b' c' d' e' f' g' h' i' j' : Atom} (h : Hold W (a' :: b' :: c' :: d' :: e' :: f' :: g' :: h' :: i' :: j' :: l)) : Hold W (j' :: a' :: b' :: c' :: d' :: e' :: f' :: g' :: h' :: i' :: l) := fun x hx => h x (by
  simp only [List.mem_cons] at hx ⊢
  rcases hx with h | h | h | h | h | h | h | h | h | h | h <;> simp [h])
theorem Hold.front10 {a' b' c' d' e' f' g' h' i' j' k' : Atom} (h : Hold W (a' :: b' :: c' :: d' :: e' :: f' :: g' :: h' :: i' :: j' :: k' :: l)) : Hold W (k' :: a' :: b' :: c' :: d' :: e' :: f' :: g' :: h' :: i' :: j' :: l) := fun x hx => h x (by
  simp only [List.mem_cons] at hx ⊢
  rcases hx with h | h | h | h | h | h | h | h | h | h | h | h <;> simp [h])
theorem Hold.front11 {a' b' c' d' e' f' g' h' i' j' k' l' : Atom} (h : Hold W (a' :: b' :: c' :: d' :: e' :: f' :: g' :: h' :: i' :: j' :: k' :: l' :: l)) : Hold W (l' :: a' :: b' :: c' :: d' :: e' :: f' :: g' :: h' :: i' :: j' :: k' :: l) := fun x hx => h x (by
  simp only [List.mem_cons] at hx ⊢
  rcases hx with h | h | h | h | h | h | h | h | h | h | h | h | h <;> simp [h])
end
end Go.Proofs.Ytanfhgliilkhjaa
