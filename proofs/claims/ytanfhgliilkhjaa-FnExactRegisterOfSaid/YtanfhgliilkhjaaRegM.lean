/-
  Plain: notes of a register. Words for memory: a slice of notes that is read; one that the call has made.
-/
import Derived.Test.YtanfhgliilkhjaaRegS
namespace Go.Proofs.Ytanfhgliilkhjaa
open Go.RowKit Go.Deep
set_option linter.unusedVariables false

/-- A note: its minute, its letter. -/
structure ND where
  t : Int
  s : ByteArray
/-- The minute that note j may not be ahead of. -/
def prevT (N : Nat → ND) : Nat → Int
  | 0 => 0
  | j + 1 => (N j).t
/-- Notes of a register. -/
def regP (N : Nat → ND) (m : Nat) : Prop := ∀ j, j < m → prevT N j ≤ (N j).t ∧ (N j).t ≤ 2000 ∧ isLet (N j).s = true
instance (N : Nat → ND) (m : Nat) : Decidable (regP N m) := by unfold regP; infer_instance
def regV (N : Nat → ND) (m : Nat) : Bool := decide (m ≤ 30 ∧ regP N m)
section
variable {N M : Nat → ND} {m k : Nat}
theorem regP_zero (N : Nat → ND) : regP N 0 := fun _ h => absurd h (by omega)
theorem regP_step (h : regP N m) (h1 : prevT N m ≤ (N m).t) (h2 : (N m).t ≤ 2000) (h3 : isLet (N m).s = true) : regP N (m + 1) := fun j hj => by
  by_cases e : j = m
  · subst e; exact ⟨h1, h2, h3⟩
  · exact h j (by omega)
theorem regP_no (hk : k < m) (h : ¬ (prevT N k ≤ (N k).t ∧ (N k).t ≤ 2000 ∧ isLet (N k).s = true)) : ¬ regP N m := fun hh => h (hh k hk)
theorem regP_less (h : regP N m) (hk : k ≤ m) : regP N k := fun j hj => h j (by omega)
theorem regP_nonneg (h : regP N m) : ∀ j, j ≤ m → 0 ≤ prevT N j := by
  intro j
  induction j with
  | zero => intro _; exact Int.le_refl _
  | succ j ih => intro hj; have h1 := ih (by omega); have h2 := (h j (by omega)).1; show 0 ≤ (N j).t; omega
theorem regP_bd (h : regP N m) (hk : k < m) : 0 ≤ (N k).t ∧ (N k).t ≤ 2000 := ⟨regP_nonneg h (k + 1) (by omega), (h k hk).2.1⟩
theorem regV_iff : regV N m = true ↔ (m ≤ 30 ∧ regP N m) := decide_eq_true_iff
theorem regV_no (h : ¬ (m ≤ 30 ∧ regP N m)) : regV N m = false := decide_eq_false h
theorem regP_congr (e : ∀ j, j < m → N j = M j) (h : regP N m) : regP M m := fun j hj => by
  have hp : prevT M j = prevT N j := by
    cases j with
    | zero => rfl
    | succ j => show (M j).t = (N j).t; rw [e j (by omega)]
  rw [hp, ← e j hj]; exact h j hj
theorem regV_congr (e : ∀ j, j < m → N j = M j) : regV N m = regV M m := by
  unfold regV
  rw [decide_eq_decide]
  exact and_congr_right fun _ => ⟨regP_congr e, regP_congr fun j hj => (e j hj).symm⟩
end
/-- The slice (A, n) reads as the notes N; its cells lie below block B. -/
def NsRn (w : World) (B : Nat) (A : Option Addr) (n : Nat) (N : Nat → ND) : Prop :=
  0 < n → ∃ b off, A = some ⟨b, off, none⟩ ∧ b < B ∧ ∀ i, i < n → w.cell? ⟨b, off + i * 2, none⟩ = some (.int .i64 (N i).t) ∧ w.cell? ⟨b, off + i * 2 + 1, none⟩ = some (.string (N i).s)
/-- The slice (A, n) reads as the notes N; its cells lie in block b and may be written. -/
def NsOw (w : World) (b : Nat) (A : Option Addr) (n : Nat) (N : Nat → ND) : Prop :=
  0 < n → ∃ off, A = some ⟨b, off, none⟩ ∧ b < w.heap.size ∧ (∀ i, w.frozen? ⟨b, i, none⟩ = false) ∧ ∀ i, i < n → w.cell? ⟨b, off + i * 2, none⟩ = some (.int .i64 (N i).t) ∧ w.cell? ⟨b, off + i * 2 + 1, none⟩ = some (.string (N i).s)
section
variable {B b n : Nat} {w w' : World} {A : Option Addr} {N M : Nat → ND}
theorem NsRn.keep (h : NsRn w B A n N) (hk : ∀ k, k < B → w'.heap[k]? = w.heap[k]?) : NsRn w' B A n N := fun hn => by
  obtain ⟨b, off, e, hb, hc⟩ := h hn
  exact ⟨b, off, e, hb, fun i hi => ⟨(World.cell?_of_block (a := ⟨b, off + i * 2, none⟩) (hk b hb)).trans (hc i hi).1, (World.cell?_of_block (a := ⟨b, off + i * 2 + 1, none⟩) (hk b hb)).trans (hc i hi).2⟩⟩
theorem NsRn.up (h : NsRn w B A n N) {C : Nat} (hC : B ≤ C) : NsRn w C A n N := fun hn => by
  obtain ⟨b, off, e, hb, hc⟩ := h hn
  exact ⟨b, off, e, by omega, hc⟩
theorem NsRn.below (h : NsRn w B A n N) (hb : Below B w w') : NsRn w' B A n N := h.keep hb.block
theorem NsRn.call (h : NsRn w B A n N) (hB : B ≤ w.heap.size) (hb : Below w.heap.size w w') : NsRn w' B A n N := h.below (hb.mono hB)
theorem NsRn.alloc (h : NsRn w B A n N) (hB : B ≤ w.heap.size) (o : Obj) : NsRn (w.alloc o) B A n N := h.keep fun _ hk => blk_alloc_lt _ _ _ (by omega)
theorem NsRn.top (h : NsRn w w.heap.size A n N) (o : Obj) : NsRn (w.alloc o) (w.alloc o).heap.size A n N := (h.alloc (Nat.le_refl _) _).up (by simp)
theorem NsRn.topq (h : NsRn w w.heap.size A n N) (q : Nat) : NsRn (w.drewN q) (w.drewN q).heap.size A n N := h
theorem NsRn.topb (h : NsRn w w.heap.size A n N) (hb : Below w.heap.size w w') : NsRn w' w'.heap.size A n N := (h.below hb).up hb.size
theorem NsRn.less (h : NsRn w B A n N) {m : Nat} (hm : m ≤ n) : NsRn w B A m N := fun hn => by
  obtain ⟨b, off, e1, hb, hc⟩ := h (by omega)
  exact ⟨b, off, e1, hb, fun i hi => hc i (by omega)⟩
theorem NsRn.congr (h : NsRn w B A n N) (e : ∀ i, i < n → N i = M i) : NsRn w B A n M := fun hn => by
  obtain ⟨b, off, e1, hb, hc⟩ := h hn
  exact ⟨b, off, e1, hb, fun i hi => by rw [← e i hi]; exact hc i hi⟩
theorem NsRn.nil (w : World) (B : Nat) (A : Option Addr) (N : Nat → ND) : NsRn w B A 0 N := fun h => absurd h (by omega)
theorem NsOw.nil (w : World) (B : Nat) (A : Option Addr) (N : Nat → ND) : NsOw w B A 0 N := fun h => absurd h (by omega)
theorem NsOw.rn (h : NsOw w b A n N) (hb : b < B) : NsRn w B A n N := fun hn => by
  obtain ⟨off, e, _, _, hc⟩ := h hn
  exact ⟨b, off, e, hb, hc⟩
theorem NsOw.of (h : NsOw w b A n N) (e : w'.heap[b]? = w.heap[b]?) (hs : w.heap.size ≤ w'.heap.size) : NsOw w' b A n N := fun hn => by
  obtain ⟨off, e1, hb, hf, hc⟩ := h hn
  exact ⟨off, e1, by omega, fun i => (World.frozen?_of_block (w := w) (a := ⟨b, i, none⟩) e).trans (hf i), fun i hi => ⟨(World.cell?_of_block (w := w) (a := ⟨b, off + i * 2, none⟩) e).trans (hc i hi).1, (World.cell?_of_block (w := w) (a := ⟨b, off + i * 2 + 1, none⟩) e).trans (hc i hi).2⟩⟩
theorem NsOw.call (h : NsOw w b A n N) (hb : Below w.heap.size w w') : NsOw w' b A n N := fun hn => by
  obtain ⟨_, _, hb1, _⟩ := h hn
  exact h.of (hb.block b hb1) hb.size hn
theorem NsOw.congr (h : NsOw w b A n N) (e : ∀ i, i < n → N i = M i) : NsOw w b A n M := fun hn => by
  obtain ⟨off, e1, hb, hf, hc⟩ := h hn
  exact ⟨off, e1, hb, hf, fun i hi => by rw [← e i hi]; exact hc i hi⟩
/-- A slice of notes, as a thing that holds. -/
def nsA (B : Nat) (A : Option Addr) (n : Nat) (N : Nat → ND) : Atom := ⟨0, B, fun W => NsRn W B A n N⟩
theorem nsA_ok (B : Nat) (A : Option Addr) (n : Nat) (N : Nat → ND) : (nsA B A n N).ok := fun _ _ h _ hk => NsRn.keep h (fun k hk1 => hk k (Nat.zero_le _) hk1)
def noA (lo hi : Nat) (A : Option Addr) (n : Nat) (N : Nat → ND) : Atom := ⟨lo, hi, fun W => ∃ b, (0 < n → lo ≤ b ∧ b < hi) ∧ NsOw W b A n N⟩
theorem noA_ok (lo hi : Nat) (A : Option Addr) (n : Nat) (N : Nat → ND) : (noA lo hi A n N).ok := by
  rintro W W' ⟨b, h1, o1⟩ hs hk
  exact ⟨b, h1, fun hn => o1.of (hk b (h1 hn).1 (h1 hn).2) hs hn⟩
variable {W : World} {l : List Atom} {lo hi : Nat}
theorem Hold.ns (h : Hold W l) (hB : B ≤ W.heap.size) (hr : NsRn W B A n N) : Hold W (nsA B A n N :: l) := h.cons (nsA_ok _ _ _ _) hB hr
theorem Hold.no (h : Hold W l) (hB : hi ≤ W.heap.size) (hr : ∃ b, (0 < n → lo ≤ b ∧ b < hi) ∧ NsOw W b A n N) : Hold W (noA lo hi A n N :: l) := h.cons (noA_ok _ _ _ _ _) hB hr
theorem Hold.nsup (h : Hold W (nsA B A n N :: l)) : NsRn W W.heap.size A n N := NsRn.up h.hd h.hi
theorem Hold.norn (h : Hold W (noA lo hi A n N :: l)) : NsRn W W.heap.size A n N := by
  obtain ⟨b, h1, o1⟩ := h.hd
  have h2 := h.hi
  exact fun hn => by obtain ⟨_, _, hb, _⟩ := o1 hn; exact o1.rn hb hn
end
set_option maxHeartbeats 1000000 in
theorem sRegV (A : Option Addr) (m c : Nat) (N : Nat → ND) (w : World) (h : NsRn w w.heap.size A m N) (hm : m ≤ 1099511627776) :
    Calls Try.prog 23 #[.slice A m c] w fun e w' => e = .returned (.bool (regV N m)) ∧ w' = w := by
  have H := Lib.hid h
  clear h
  go_enter Try.func23, Try.ntmps23
  go_wp2
  go_loopw [3, 4] (fun t i wr => ∃ k : Nat, k ≤ m ∧ i = .int .i64 k ∧ t = .int .i64 (prevT N k) ∧ Hid (regP N k) ∧ wr = w) (fun _ i _ => m - (intOf i).toNat)
  case atStart => exact ⟨0, Nat.zero_le _, rfl, rfl, regP_zero _, rfl⟩
  case round =>
    obtain ⟨k, hk, rfl, rfl, hP, rfl⟩ := hrel
    by_cases hlt : k < m
    · obtain ⟨b, off, rfl, hbB, hc⟩ := H.out (by omega)
      obtain ⟨x0, x1⟩ := hc k hlt
      have hk0 : (0 : Int) ≤ (k : Int) := by omega
      have hk1 : (k : Int) < (m : Int) := by omega
      clear hc
      by_cases h1 : prevT N k ≤ (N k).t ∧ (N k).t ≤ 2000
      · have V1 : Hid ((decide (prevT N k ≤ (N k).t) && decide ((N k).t ≤ 2000)) = true) := by rw [Hid, decide_eq_true h1.1, decide_eq_true h1.2]; rfl
        cases h2 : isLet (N k).s
        · have hr := hide (regV_no (N := N) (m := m) fun x => regP_no hlt (fun y => by rw [h2] at y; exact absurd y.2.2 (by simp)) x.2)
          have V2 := Lib.hid h2
          clear h1 h2
          go_wp2_with fail
          refine (sIn_v true _ _ _ _ V1.out).mono ?_
          rintro e w1 ⟨rfl, rfl⟩
          go_wp2_with fail
          refine (sLetter _ _).mono ?_
          rintro e w1 ⟨rfl, rfl⟩
          have v3 := V2.out
          go_wp2
          go_ret
          exact ⟨ret_bool hr.symm, rfl⟩
        · have hst := hide (regP_step hP.out h1.1 h1.2 h2)
          have V2 := Lib.hid h2
          clear h1 h2
          go_wp2_with fail
          refine (sIn_v true _ _ _ _ V1.out).mono ?_
          rintro e w1 ⟨rfl, rfl⟩
          go_wp2_with fail
          refine (sLetter _ _).mono ?_
          rintro e w1 ⟨rfl, rfl⟩
          have v3 := V2.out
          go_wp2
          go_roundw
          case rel => exact ⟨k + 1, by omega, by go_num, rfl, hst, trivial⟩
          case measure => simp [intOf]; omega
      · have V1 : Hid ((decide (prevT N k ≤ (N k).t) && decide ((N k).t ≤ 2000)) = false) := by
          show _ = _
          rw [Bool.and_eq_false_iff, decide_eq_false_iff_not, decide_eq_false_iff_not]; omega
        have hr := hide (regV_no (N := N) (m := m) fun x => regP_no hlt (fun y => h1 ⟨y.1, y.2.1⟩) x.2)
        clear h1
        go_wp2_with fail
        refine (sIn_v false _ _ _ _ V1.out).mono ?_
        rintro e w1 ⟨rfl, rfl⟩
        go_wp2
        go_ret
        exact ⟨ret_bool hr.symm, rfl⟩
    · obtain rfl : k = m := by omega
      have hr := hide (show regV N k = decide ((k : Int) ≤ 30) by
        unfold regV; rw [decide_eq_decide]
        exact ⟨fun x => by omega, fun x => ⟨by omega, hP.out⟩⟩)
      go_wp2
      go_ret
      exact ⟨ret_bool hr.symm, rfl⟩
end Go.Proofs.Ytanfhgliilkhjaa
