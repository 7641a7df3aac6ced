/-
  Words for the reader of a code: what it holds, how it stands behind new blocks, stores and calls.
-/
import Derived.Test.YtejggpejmooegaaBox
import Derived.Laws.AppendOwn
import Derived.Laws.BitsAllLaws
import Derived.Laws.BitsLemmas
import Derived.Deep.Draws
import Derived.ChangeSame
import Derived.OpenShut
namespace Go.Proofs.Ytejggpejmooegaa
open Go.RowKit Go.Deep

/-- The bytes that a reader reads lie below block B. -/
def BytesAt (B : Nat) (w : World) (A : Option Addr) (n : Nat) : Prop :=
  0 < n → ∃ b off, A = some ⟨b, off, none⟩ ∧ b < B ∧ ∀ i, i < n → ∃ v : Nat, v < 256 ∧ w.cell? ⟨b, off + i, none⟩ = some (.int .u8 (v : Int))
/-- The reader in block R: p places have been read. -/
def Rd (B : Nat) (w : World) (R p : Nat) : Prop := ∃ A n c, Bx w R [.slice A n c, .int .i64 (p : Int)] ∧ n ≤ 2000 ∧ BytesAt B w A n ∧ B ≤ R
section
variable {B R S p n : Nat} {w w' w0 : World} {A : Option Addr}
theorem BytesAt.keep (h : BytesAt B w A n) (hk : ∀ k, k < B → w'.heap[k]? = w.heap[k]?) : BytesAt B w' A n := fun hn => by
  obtain ⟨b, off, e, hb, hc⟩ := h hn
  exact ⟨b, off, e, hb, fun i hi => by
    obtain ⟨v, hv, hcc⟩ := hc i hi
    exact ⟨v, hv, (World.cell?_of_block (a := ⟨b, off + i, none⟩) (hk b hb)).trans hcc⟩⟩
theorem BytesAt.less (h : BytesAt B w A n) {m : Nat} (hm : m ≤ n) : BytesAt B w A m := fun hn => by
  obtain ⟨b, off, e, hb, hc⟩ := h (by omega)
  exact ⟨b, off, e, hb, fun i hi => hc i (by omega)⟩
theorem Rd.lt (h : Rd B w R p) : R < w.heap.size := by obtain ⟨_, _, _, hx, _⟩ := h; exact hx.lt
theorem Rd.base (h : Rd B w R p) : B ≤ R := by obtain ⟨_, _, _, _, _, _, hB⟩ := h; exact hB
theorem Rd.of (h : Rd B w R p) (hR : w'.heap[R]? = w.heap[R]?) (hk : ∀ k, k < B → w'.heap[k]? = w.heap[k]?) : Rd B w' R p := by
  obtain ⟨A, n, c, hx, hn, hb, hB⟩ := h
  exact ⟨A, n, c, hx.of hR, hn, hb.keep hk, hB⟩
theorem Rd.alloc (h : Rd B w R p) (o : Obj) : Rd B (w.alloc o) R p :=
  h.of (blk_alloc_lt _ _ _ h.lt) (fun k hk => blk_alloc_lt _ _ _ (by have := h.lt; have := h.base; omega))
theorem Rd.drew (h : Rd B w R p) : Rd B w.drew R p := h
theorem Rd.drewN (h : Rd B w R p) (q : Nat) : Rd B (w.drewN q) R p := h
theorem Rd.other (h : Rd B w R p) {a : Addr} (h1 : R ≠ a.block) (h2 : B ≤ a.block) (v : Value) : Rd B (w.setCell a v) R p :=
  h.of (blk_setCell_other _ _ _ _ h1) (fun k hk => blk_setCell_other _ _ _ _ (by omega))
theorem Rd.call (h : Rd B w R p) (hb : Below w.heap.size w w') : Rd B w' R p :=
  h.of (hb.block R h.lt) (fun k hk => hb.block k (by have := h.lt; have := h.base; omega))
theorem Bx.grown {l : List Value} {K : Nat} (h : Bx w K l) {row : Option Nat} (hg : w.grownBy w' row) (hne : some K ≠ row) : Bx w' K l := h.of (hg.block K h.lt hne)
theorem gb_bl (h : Below B w0 w) (hB : B ≤ w.heap.size) (hR : B ≤ R) (hg : w.grownBy w' (some R)) : Below B w0 w' := h.grown hg hB (fun k e => by injection e with e; omega)
theorem gb_trans {a b c : World} (h : a.grownBy b (some R)) (k : b.grownBy c (some R)) : a.grownBy c (some R) :=
  ⟨k.os.trans h.os, k.tape.trans h.tape, k.output.trans h.output, Nat.le_trans h.size k.size, fun i hi hne => (k.block i (Nat.lt_of_lt_of_le hi h.size) hne).trans (h.block i hi hne)⟩
theorem gb_refl (w : World) (row : Option Nat) : w.grownBy w row := ⟨rfl, rfl, rfl, Nat.le_refl _, fun _ _ _ => rfl⟩
theorem gb_below {a b c : World} {row : Option Nat} (h : a.grownBy b row) (k : Below b.heap.size b c) : a.grownBy c row :=
  ⟨k.os.trans h.os, k.tape.trans h.tape, k.output.trans h.output, Nat.le_trans h.size k.size, fun i hi hne => (k.block i (Nat.lt_of_lt_of_le hi h.size)).trans (h.block i hi hne)⟩
theorem gb_alloc {a b : World} {row : Option Nat} (h : a.grownBy b row) (o : Obj) : a.grownBy (b.alloc o) row :=
  ⟨h.os, h.tape, h.output, Nat.le_trans h.size (by simp), fun i hi hne => (blk_alloc_lt _ _ _ (Nat.lt_of_lt_of_le hi h.size)).trans (h.block i hi hne)⟩
theorem gb_drew {a b : World} {row : Option Nat} (h : a.grownBy b row) : a.grownBy b.drew row := ⟨h.os, h.tape, h.output, h.size, h.block⟩
theorem gb_drewN {a b : World} {row : Option Nat} (h : a.grownBy b row) (q : Nat) : a.grownBy (b.drewN q) row := ⟨h.os, h.tape, h.output, h.size, h.block⟩
/-- A store into the reader, or into a block that is new since a. -/
theorem gb_setCell {a b : World} (h : a.grownBy b (some R)) {q : Addr} (hq : q.block = R ∨ a.heap.size ≤ q.block) (u : Value) : a.grownBy (b.setCell q u) (some R) :=
  ⟨h.os, h.tape, h.output, by simpa [World.setCell] using h.size, fun i hi hne => (blk_setCell_other _ _ _ _ (by
    rcases hq with hq | hq
    · exact fun e => hne (by rw [e, hq])
    · omega)).trans (h.block i hi hne)⟩
theorem Rd.step {A : Option Addr} {n c : Nat} (h : Bx w R [.slice A n c, .int .i64 (p : Int)]) (hn : n ≤ 2000) (hb : BytesAt B w A n) (hB : B ≤ R) {q : Nat} : Rd B (w.setCell ⟨R, 1, none⟩ (.int .i64 (q : Int))) R q :=
  ⟨A, n, c, h.set 1 _, hn, hb.keep (fun k hk => blk_setCell_other _ _ _ _ (by simp; omega)), hB⟩
end
theorem tmod_bd {x n : Int} (h : 0 ≤ x) (hn : 1 ≤ n) : 0 ≤ x.tmod n ∧ x.tmod n < n := by
  rw [Int.tmod_eq_emod_of_nonneg h]
  exact ⟨Int.emod_nonneg _ (by omega), Int.emod_lt_of_pos _ (by omega)⟩
theorem ofInt_i64 (a : Nat) (ha : a < 9223372036854775808) : (BitVec.ofInt 64 (a : Int)).toNat = a := by
  rw [BitVec.ofInt_natCast, BitVec.toNat_ofNat]; exact Nat.mod_eq_of_lt (by omega)
theorem xor_nonneg (x y : Int) (hx : 0 ≤ x) (hy : 0 ≤ y) (hx2 : x < 9223372036854775808) (hy2 : y < 9223372036854775808) : 0 ≤ bits .xor .i64 x y := by
  obtain ⟨a, rfl⟩ := Int.eq_ofNat_of_zero_le hx
  obtain ⟨b, rfl⟩ := Int.eq_ofNat_of_zero_le hy
  have hz : a ^^^ b < 2 ^ 63 := Nat.xor_lt_two_pow (by omega) (by omega)
  show 0 ≤ IntKind.i64.wrap ((BitVec.ofInt 64 (a : Int) ^^^ BitVec.ofInt 64 (b : Int)).toNat : Int)
  rw [BitVec.toNat_xor, ofInt_i64 a (by omega), ofInt_i64 b (by omega), IntKind.wrap_i64]
  omega
/-- What the frame of a law tells of a slice of numbers that came in. -/
def IsRow (k : IntKind) (w : World) (a : Option Addr) (len cap : Nat) (zs : List Int) : Prop :=
  (a = none ∧ len = 0 ∧ cap = 0 ∧ zs = []) ∨
  ∃ x, a = some x ∧ len ≤ cap ∧ cap ≤ maxLen ∧ zs.length = cap ∧ (∀ i, i < zs.length → w.cell? (x.add i) = some (.int k (zs.getD i 0))) ∧ ∀ n ∈ zs, (Lit.int k n).wf = true
theorem IsRow.bytes {w : World} {a : Option Addr} {len cap : Nat} {zs : List Int} (h : IsRow .u8 w a len cap zs) : BytesAt w.heap.size w a len ∧ len ≤ cap ∧ cap ≤ 9223372036854775807 := by
  rcases h with ⟨rfl, rfl, rfl, rfl⟩ | ⟨x, rfl, h1, h2, h3, h4, h5⟩
  · exact ⟨fun h => absurd h (by omega), by omega, by omega⟩
  refine ⟨fun hn => ?_, h1, by unfold maxLen at h2; omega⟩
  obtain ⟨b, off, spot⟩ := x
  have hc := h4 0 (by omega)
  have hspot : spot = none := by simpa [Addr.add] using World.cell?_spot hc
  subst hspot
  refine ⟨b, off, rfl, World.block_lt_of_cell? w _ (by simpa [Addr.add] using hc), fun i hi => ?_⟩
  have hi2 : i < zs.length := by omega
  have hci := h4 i hi2
  have hw := h5 (zs.getD i 0) (by rw [List.getD_eq_getElem?_getD, List.getElem?_eq_getElem hi2]; exact List.getElem_mem hi2)
  have hbd := bounds_u8 hw
  obtain ⟨v, hv⟩ := Int.eq_ofNat_of_zero_le hbd.1
  refine ⟨v, by omega, ?_⟩
  rw [hv] at hci
  have he : (⟨b, off, none⟩ : Addr).add i = ⟨b, off + i, none⟩ := by unfold Addr.add; split <;> simp_all
  rw [← he]; exact hci
/-- What a pick leaves. -/
def PickPost (B : Nat) (w : World) (R p : Nat) (n : Int) (e : Ending) (w' : World) : Prop := ∃ v : Int, e = .returned (.int .i64 v) ∧ 0 ≤ v ∧ v < n ∧ Rd B w' R (p + 1) ∧ w.grownBy w' (some R)
end Go.Proofs.Ytejggpejmooegaa
