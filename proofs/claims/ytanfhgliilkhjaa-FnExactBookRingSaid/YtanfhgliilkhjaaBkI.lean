/-
  Words for slices of int slices that a call has made; contracts of szIntSS, toIntSS, eqIntSS, markIntSS.
-/
import Derived.Test.YtanfhgliilkhjaaBkR
import Derived.Deep.RegionHeld3
import Derived.Laws.MakeOwn
namespace Go.Proofs.Ytanfhgliilkhjaa
open Go.RowKit Go.Deep
set_option linter.unusedVariables false

/-- A slice of int slices that a call has made, or is about to make: k of n lists are in; their memory lies from block lo on and below hi, no two in one block. -/
def SsPart (w : World) (T : TypeId) (lo hi g n k : Nat) (D : Nat → LD) : Prop :=
  ∃ (G : Nat → Nat) (F : Nat → Value), lo ≤ g ∧ g < hi ∧ (∀ i, i < k → lo ≤ G i ∧ G i < hi ∧ G i ≠ g) ∧ (∀ i j, i < k → j < k → G i = G j → i = j) ∧ w.rowIs g T n F ∧
    ∀ i, i < k → ∃ a c, F i = .slice a (D i).n c ∧ Ow w (G i) a (D i).n (D i).f
section
variable {T lo hi g n k : Nat} {w w' : World} {D : Nat → LD}
theorem SsPart.keep (h : SsPart w T lo hi g n k D) (hs : w.heap.size ≤ w'.heap.size) (hk : ∀ b, lo ≤ b → b < hi → w'.heap[b]? = w.heap[b]?) : SsPart w' T lo hi g n k D := by
  obtain ⟨G, F, h1, h2, h3, h4, ⟨c, hc, hr⟩, h6⟩ := h
  refine ⟨G, F, h1, h2, h3, h4, ⟨c, (hk g h1 h2).trans hc, hr⟩, fun i hi => ?_⟩
  obtain ⟨a, c, e1, o1⟩ := h6 i hi
  have q1 := h3 i hi
  exact ⟨a, c, e1, o1.of (hk _ q1.1 q1.2.1) hs⟩
theorem SsPart.rn (h : SsPart w T lo hi g n n D) {B : Nat} (hB : hi ≤ B) : SsRn w B (some ⟨g, 0, none⟩) n D := fun hn => by
  obtain ⟨G, F, h1, h2, h3, h4, hr, h6⟩ := h
  refine ⟨g, 0, rfl, by omega, fun i hi => ?_⟩
  obtain ⟨a, c, e1, o1⟩ := h6 i hi
  have q1 := h3 i hi
  exact ⟨a, c, by rw [Nat.zero_add, hr.cell hi, e1], o1.rn (by omega)⟩
theorem SsPart.start (w : World) (T n g lo hi : Nat) (D : Nat → LD) (F : Nat → Value) (h1 : lo ≤ g) (h2 : g < hi) (hr : w.rowIs g T n F) : SsPart w T lo hi g n 0 D :=
  ⟨fun _ => 0, F, h1, h2, fun i hi => absurd hi (by omega), fun i j hi => absurd hi (by omega), hr, fun i hi => absurd hi (by omega)⟩
/-- One more list is put in. -/
theorem SsPart.put (h : SsPart w T lo hi g n k D) (hk : k < n) (hhi : hi ≤ w.heap.size) (hb : Below w.heap.size w w') {a : Option Addr} {c b : Nat} (hl1 : w.heap.size ≤ b) (hl2 : b < w'.heap.size)
    (o1 : Ow w' b a (D k).n (D k).f) : SsPart (w'.setCell ⟨g, k, none⟩ (.slice a (D k).n c)) T lo w'.heap.size g n (k + 1) D := by
  have h' := h.keep (w' := w') hb.size (fun b _ hb1 => hb.block b (by omega))
  obtain ⟨G, F, h1, h2, h3, h4, hr, h6⟩ := h'
  have hsz := hb.size
  have bd : ∀ i, i < k → G i < w.heap.size := fun i hi => by have := (h3 i hi).2.1; omega
  refine ⟨fun i => if i = k then b else G i, _, h1, by omega, fun i hi => ?_, fun i j hi hj e => ?_, hr.set (i := k) (v := .slice a (D k).n c), fun i hi => ?_⟩
  · by_cases e1 : i = k
    · simp only [if_pos e1]; omega
    · simp only [if_neg e1]
      have := h3 i (by omega)
      omega
  · simp only at e
    by_cases i1 : i = k
    · rw [if_pos i1] at e
      by_cases j1 : j = k
      · omega
      · rw [if_neg j1] at e; have := bd j (by omega); omega
    · rw [if_neg i1] at e
      by_cases j1 : j = k
      · rw [if_pos j1] at e; have := bd i (by omega); omega
      · rw [if_neg j1] at e; exact h4 i j (by omega) (by omega) e
  · by_cases e : i = k
    · subst e
      refine ⟨a, c, ?_, ?_⟩
      · rw [if_pos rfl]
      · simp only [if_pos]; exact o1.store (a := ⟨g, i, none⟩) (by simp; omega) _
    · obtain ⟨d1, e1, q1, q3⟩ := h6 i (by omega)
      have z1 := h3 i (by omega)
      refine ⟨d1, e1, ?_, ?_⟩
      · rw [if_neg e, q1]
      · simp only [if_neg e]
        exact q3.store (a := ⟨g, k, none⟩) (by simp; omega) _
end
/-- As things that hold. -/
def ssA (B : Nat) (A : Option Addr) (n : Nat) (D : Nat → LD) : Atom := ⟨0, B, fun W => SsRn W B A n D⟩
theorem ssA_ok (B : Nat) (A : Option Addr) (n : Nat) (D : Nat → LD) : (ssA B A n D).ok := fun _ _ h _ hk => SsRn.keep h (fun k hk1 => hk k (Nat.zero_le _) hk1)
def stA (T lo hi g n : Nat) (D : Nat → LD) : Atom := ⟨lo, hi, fun W => SsPart W T lo hi g n n D⟩
theorem stA_ok (T lo hi g n : Nat) (D : Nat → LD) : (stA T lo hi g n D).ok := fun _ _ h hs hk => SsPart.keep h hs hk
section
variable {W : World} {l : List Atom} {T B lo hi g n : Nat} {A : Option Addr} {D : Nat → LD}
theorem Hold.ss (h : Hold W l) (hB : B ≤ W.heap.size) (hr : SsRn W B A n D) : Hold W (ssA B A n D :: l) := h.cons (ssA_ok _ _ _ _) hB hr
theorem Hold.st (h : Hold W l) (hB : hi ≤ W.heap.size) (hr : SsPart W T lo hi g n n D) : Hold W (stA T lo hi g n D :: l) := h.cons (stA_ok _ _ _ _ _ _) hB hr
theorem Hold.ssup (h : Hold W (ssA B A n D :: l)) : SsRn W W.heap.size A n D := SsRn.up h.hd h.hi
theorem Hold.strn (h : Hold W (stA T lo hi g n D :: l)) : SsRn W W.heap.size (some ⟨g, 0, none⟩) n D := SsPart.rn h.hd h.hi
end
theorem Hold.ow {W : World} {l : List Atom} {lo hi n : Nat} {A : Option Addr} {f : Nat → Int} (h : Hold W l) (hB : hi ≤ W.heap.size) (hr : ∃ b, (0 < n → lo ≤ b ∧ b < hi) ∧ Ow W b A n f) : Hold W (owA lo hi A n f :: l) := h.cons (owA_ok _ _ _ _ _) hB hr
theorem Hold.owrn {W : World} {l : List Atom} {lo hi n : Nat} {A : Option Addr} {f : Nat → Int} (h : Hold W (owA lo hi A n f :: l)) : Rn W W.heap.size A n f := by
  have h2 : hi ≤ W.heap.size := h.hi
  obtain ⟨b, hb, ho⟩ : ∃ b, (0 < n → lo ≤ b ∧ b < hi) ∧ Ow W b A n f := h.hd
  intro hn
  have := hb hn
  exact ho.rn (by omega) hn
/-- How many numbers the first k lists have. -/
def totL (D : Nat → LD) : Nat → Nat
  | 0 => 0
  | k + 1 => totL D k + (D k).n
theorem totL_mono (D : Nat → LD) {k m : Nat} (h : k ≤ m) : totL D k ≤ totL D m := by
  induction m with
  | zero => rw [show k = 0 by omega]; exact Nat.le_refl _
  | succ m ih =>
    by_cases e : k = m + 1
    · subst e; exact Nat.le_refl _
    · have := ih (by omega)
      show _ ≤ totL D m + (D m).n
      omega
theorem totL_at (D : Nat → LD) {k n : Nat} (h : k < n) : (D k).n ≤ totL D n := by
  have := totL_mono D (show k + 1 ≤ n from h)
  have e : totL D (k + 1) = totL D k + (D k).n := rfl
  omega
def szL (n : Nat) (D : Nat → LD) (left : Int) : Int := if (n : Int) + totL D n ≤ left then left - n - totL D n else -1
theorem szL_yes {n : Nat} {D : Nat → LD} {left : Int} (h : (n : Int) + totL D n ≤ left) : szL n D left = left - n - totL D n := if_pos h
theorem szL_no {n : Nat} {D : Nat → LD} {left : Int} (h : ¬ (n : Int) + totL D n ≤ left) : szL n D left = -1 := if_neg h
set_option maxHeartbeats 2000000 in
theorem szIntSS_any (A : Option Addr) (n c : Nat) (D : Nat → LD) (left : Int) (w : World) (h : SsRn w w.heap.size A n D) (h0 : 0 ≤ left) (h1 : left ≤ 1048576) (hn : n ≤ 9223372036854775807) (hD : ∀ i, i < n → (D i).n ≤ 9223372036854775807) :
    Calls Try.prog 12 #[.slice A n c, .int .i64 left] w fun e w' => e = .returned (.int .i64 (szL n D left)) ∧ w' = w := by
  by_cases hl : left - n < 0
  · have hr := hide (szL_no (n := n) (D := D) (left := left) (by omega))
    clear hD
    go_enter Try.func12, Try.ntmps12
    go_wp2
    go_ret
    exact ⟨ret_int hr.symm, rfl⟩
  have HD := Lib.hid hD
  clear hD
  go_enter Try.func12, Try.ntmps12
  go_wp2
  go_loopw [1, 5] (fun v i wr => ∃ (k : Nat) (t : Nat), k ≤ n ∧ i = .int .i64 k ∧ v = .int .i64 (left - n - (t : Int)) ∧ (n : Int) + t ≤ left ∧ Hid (totL D k = t) ∧ wr = w) (fun _ i _ => n - (intOf i).toNat)
  case atStart => exact ⟨0, 0, Nat.zero_le _, rfl, by simp, by omega, rfl, rfl⟩
  case round =>
    obtain ⟨k, t, hk, rfl, rfl, ht, hT, rfl⟩ := hrel
    by_cases hlt : k < n
    · obtain ⟨b, off, a1, c1, m1, f1, rfl, hbB, hd, x0, r1⟩ := h.at_ hlt
      have hd2 := HD.out k hlt
      rw [hd] at hd2
      have hstep : totL D (k + 1) = t + m1 := by show totL D k + (D k).n = _; rw [hT.out, hd]
      have hm1 : m1 ≤ 9223372036854775807 := hd2
      have k0 : (0 : Int) ≤ (k : Int) := by omega
      have k1 : (k : Int) < (n : Int) := by omega
      by_cases hf : (m1 : Int) ≤ left - n - t
      · have hT2 := hide hstep
        have hs := szI_yes (n := m1) (left := left - n - t) (by omega)
        have HZ := Lib.hid (fun cA => szInts a1 m1 cA (left - n - t) wr (by omega) (by omega) hm1)
        rw [hs] at HZ
        clear hstep hd hd2 hs
        go_wp2_with fail
        refine (HZ.out _).mono ?_
        rintro e w1 ⟨rfl, rfl⟩
        go_wp2
        go_roundw
        case rel => exact ⟨k + 1, t + m1, by omega, by go_num, by go_num, by omega, hT2, by trivial⟩
        case measure => simp [intOf]; omega
      · have hr := hide (szL_no (n := n) (D := D) (left := left) (by have := totL_mono D (show k + 1 ≤ n from hlt); rw [hstep] at this; omega))
        have hs := szI_no (n := m1) (left := left - n - t) (by omega)
        have HZ := Lib.hid (fun cA => szInts a1 m1 cA (left - n - t) wr (by omega) (by omega) hm1)
        rw [hs] at HZ
        clear hstep hd hd2 hs
        go_wp2_with fail
        refine (HZ.out _).mono ?_
        rintro e w1 ⟨rfl, rfl⟩
        clear hf
        go_wp2
        go_ret
        exact ⟨ret_int hr.symm, rfl⟩
    · obtain rfl : k = n := by omega
      have hr := hide (szL_yes (n := k) (D := D) (left := left) (by rw [hT.out]; exact ht))
      go_wp2
      go_ret
      exact ⟨ret_int (by rw [hr.out, hT.out]), rfl⟩
theorem listInfo : (Try.prog.info? 23).map (fun i => (i.zero, i.size, i.bytes)) = some (some (.slice none 0 0), 1, 24) := by kernel_rfl
/-- A slice of lists has been made. -/
def NewLists (w : World) (n : Nat) (D : Nat → LD) (e : Ending) (w' : World) : Prop := e = .returned (.slice (some ⟨w.heap.size, 0, none⟩) n n) ∧ SsPart w' 23 w.heap.size w'.heap.size w.heap.size n n D ∧ Below w.heap.size w w'
set_option maxHeartbeats 2000000 in
theorem toIntSS_any (A : Option Addr) (n c : Nat) (D : Nat → LD) (w : World) (h : SsRn w w.heap.size A n D) (hn : n ≤ 1048576) (hD : ∀ i, i < n → (D i).n ≤ 1048576) :
    Calls Try.prog 14 #[.slice A n c] w (NewLists w n D) := by
  have hmk := run_make_row' (P := Try.prog) 22 23 (.slice none 0 0) 24 Try.underlying22 listInfo rfl .i64 .i64 n (by omega) (by omega)
  have HD := Lib.hid hD
  clear hD
  go_enter Try.func14, Try.ntmps14
  go_wp2
  have hrow := World.rowIs_made w (.slice none 0 0) n 23
  go_loopw [4] (fun i wr => ∃ k : Nat, k ≤ n ∧ i = .int .i64 k ∧ SsPart wr 23 w.heap.size wr.heap.size w.heap.size n k D ∧ SsRn wr w.heap.size A n D ∧ Below w.heap.size w wr ∧ w.heap.size < wr.heap.size) (fun i _ => n - (intOf i).toNat)
  case atStart => exact ⟨0, Nat.zero_le _, rfl, SsPart.start _ _ _ _ _ _ _ _ (Nat.le_refl _) (by simp) hrow, h.alloc (Nat.le_refl _) _, by go_grown, by simp⟩
  case round =>
    clear hmk hrow h
    obtain ⟨k, hk, rfl, hq, hp, hb, hsz⟩ := hrel
    by_cases hlt : k < n
    · obtain ⟨b, off, a1, c1, m1, f1, rfl, hbB, hd, x0, r1⟩ := hp.at_ hlt
      have hd2 := HD.out k hlt
      rw [hd] at hd2
      have hm1 : m1 ≤ 1048576 := hd2
      have hdH := Lib.hid hd
      clear hd hd2
      go_wp2_with fail
      refine (toInts a1 m1 c1 f1 _ _ (r1.up (C := wr.heap.size) (by omega)) (Nat.le_refl _) hm1).mono ?_
      rintro e w1 ⟨rfl, o1, hs1, hn1⟩
      have hb1 : Below w.heap.size w w1 := bl hb (by omega) hn1
      have hq1 : SsPart (w1.setCell ⟨w.heap.size, k, none⟩ (.slice (some ⟨wr.heap.size, 0, none⟩) m1 m1)) 23 w.heap.size w1.heap.size w.heap.size n (k + 1) D := by
        have := hq.put hlt (Nat.le_refl _) hn1 (c := m1) (a := some ⟨wr.heap.size, 0, none⟩) (Nat.le_refl _) hs1 (by rw [hdH.out]; exact o1)
        rwa [hdH.out] at this
      have hp1 := hp.below (hn1.mono (by omega))
      have hc0 : ∃ v, w1.cell? ⟨w.heap.size, k, none⟩ = some v := by
        obtain ⟨G, F, _, _, _, _, hr, _⟩ := hq
        exact ⟨_, (hn1.cell (p := ⟨w.heap.size, k, none⟩) hsz).trans (hr.cell hlt)⟩
      have hf : ∀ o, w1.frozen? ⟨w.heap.size, o, none⟩ = false := fun o => by
        obtain ⟨G, F, _, _, _, _, hr, _⟩ := hq
        exact (hn1.frozen (p := ⟨w.heap.size, o, none⟩) hsz).trans (hr.frozen o)
      obtain ⟨v0, hc0⟩ := hc0
      have Q1 := Lib.hid hq1
      have hsz1 : w.heap.size < w1.heap.size := by omega
      clear hq hp hq1 hn1 o1 x0 r1 hb
      go_wp2
      go_roundw
      case rel => exact ⟨k + 1, by omega, by go_num, by simpa using Q1.out, (hp1.keep (fun b hb => by rw [Go.Deep.blk_setCell_other _ _ _ _ (by simp; omega)])), by go_grown, by simp; omega⟩
      case measure => simp [intOf]; omega
    · obtain rfl : k = n := by omega
      go_wp2
      go_ret
      exact ⟨rfl, hq, hb⟩
set_option maxHeartbeats 2000000 in
theorem eqIntSS_self (A E : Option Addr) (n c d : Nat) (D : Nat → LD) (w : World) (h : SsRn w w.heap.size A n D) (h2 : SsRn w w.heap.size E n D) (hn : n ≤ 1048576) (hD : ∀ i, i < n → (D i).n ≤ 1048576) :
    Calls Try.prog 18 #[.slice A n c, .slice E n d] w fun e w' => e = .returned (.bool true) ∧ Below w.heap.size w w' := by
  have HD := Lib.hid hD
  have hd : ((n : Int) != (n : Int)) = false := eq_lit rfl
  clear hD
  go_enter Try.func18, Try.ntmps18
  go_wp2
  go_loopw [5] (fun i wr => ∃ k : Nat, k ≤ n ∧ i = .int .i64 k ∧ Hid (∃ q, wr = w.drewN q)) (fun i _ => n - (intOf i).toNat)
  case atStart => exact ⟨0, Nat.zero_le _, rfl, 0, rfl⟩
  case round =>
    obtain ⟨k, hk, rfl, hq⟩ := hrel
    by_cases hlt : k < n
    · obtain ⟨b, off, a1, c1, m1, f1, rfl, hbB, hd1, x0, r1⟩ := h.at_ hlt
      obtain ⟨b', off', a1', c1', m1', f1', rfl, hbB', hd', y0, r1'⟩ := h2.at_ hlt
      rw [hd1] at hd'
      injection hd' with e1 e2
      subst e1 e2
      have hd2 := HD.out k hlt
      rw [hd1] at hd2
      have hm1 : m1 ≤ 1048576 := hd2
      have hk0 : (0 : Int) ≤ (k : Int) := by omega
      have hk1 : (k : Int) < (n : Int) := by omega
      have R1 : Hid (Rn wr wr.heap.size a1 m1 f1) := by obtain ⟨q2, rfl⟩ := hq.out; exact r1
      have R2 : Hid (Rn wr wr.heap.size a1' m1 f1) := by obtain ⟨q2, rfl⟩ := hq.out; exact r1'
      have x1 : wr.cell? ⟨b, off + k, none⟩ = some (.slice a1 m1 c1) := by obtain ⟨q2, rfl⟩ := hq.out; exact x0
      have y1 : wr.cell? ⟨b', off' + k, none⟩ = some (.slice a1' m1 c1') := by obtain ⟨q2, rfl⟩ := hq.out; exact y0
      have hl := fun (cA cB z : Nat) => eqInts a1 m1 cA f1 a1' m1 cB f1 (wr.drewN z) R1.out R2.out (by omega) (by omega)
      rw [eqI_self] at hl
      have HL := Lib.hid hl
      clear hd1 hd2 r1 r1' hl x0 y0
      go_wp2
      go_quiet (first | (go_at_call 17; exact Calls.quiet_of (HL.out _ _ _)))
      go_wp2
      go_roundw
      case rel => exact ⟨k + 1, by omega, by go_num, by obtain ⟨q2, rfl⟩ := hq.out; exact ⟨_, World.drewN_drewN _ _ _⟩⟩
      case measure => simp [intOf]; omega
    · obtain rfl : k = n := by omega
      obtain ⟨q, rfl⟩ := hq.out
      go_wp2
      go_ret
      exact ⟨rfl, below_dn (Below.refl _ _) q⟩
/-- A slice of lists that a call has made, of which only the lengths are known. -/
def SsAny (w : World) (T : TypeId) (lo hi g n : Nat) (D : Nat → LD) : Prop := ∃ E : Nat → LD, (∀ i, i < n → (E i).n = (D i).n) ∧ SsPart w T lo hi g n n E
theorem SsAny.at_ {w : World} {T : TypeId} {lo hi g n : Nat} {D : Nat → LD} (h : SsAny w T lo hi g n D) {i : Nat} (hi' : i < n) : ∃ a1 c1 b1 f1, w.cell? ⟨g, i, none⟩ = some (.slice a1 (D i).n c1) ∧
    (lo ≤ b1 ∧ b1 < hi) ∧ Ow w b1 a1 (D i).n f1 ∧ (∀ w' f', w.grownBy w' (some b1) → Ow w' b1 a1 (D i).n f' → SsAny w' T lo hi g n D) := by
  obtain ⟨E, hE, G, F, h1, h2, h3, h4, hr, h6⟩ := h
  obtain ⟨a1, c1, e1, o1⟩ := h6 i hi'
  have q1 := h3 i hi'
  have l1 := hE i hi'
  rw [l1] at e1 o1
  refine ⟨a1, c1, G i, _, by rw [hr.cell hi', e1], ⟨q1.1, q1.2.1⟩, o1, fun w' f' hg ho => ?_⟩
  refine ⟨fun j => if j = i then ⟨(D i).n, f'⟩ else E j, fun j hj => ?_, G, F, h1, h2, h3, h4, ?_, fun j hj => ?_⟩
  · by_cases e : j = i
    · subst e; simp
    · simp only [if_neg e]; exact hE j hj
  · obtain ⟨c, hc, hrr⟩ := hr
    exact ⟨c, (hg.block g (lt_of_block hc) (fun e => q1.2.2 (by injection e with e; exact e.symm))).trans hc, hrr⟩
  · by_cases e : j = i
    · subst e
      simp only [if_true]
      exact ⟨a1, c1, e1, ho⟩
    · simp only [if_neg e]
      obtain ⟨d1, k1, z1, p1⟩ := h6 j hj
      exact ⟨d1, k1, z1, p1.grown (fun x => e (h4 j i hj hi' x)) hg⟩
set_option maxHeartbeats 2000000 in
theorem markIntSS_is (t : Nat) (T : TypeId) (lo hi g n c : Nat) (D : Nat → LD) (k0 : Int) (w : World) (h : SsPart w T lo hi g n n D) (hhi : hi ≤ w.heap.size) (hk0 : 0 ≤ k0) (hk1 : k0 ≤ 1000000000) (he : totL D n = t) (ht : (n : Int) + t ≤ 1048576) :
    Calls Try.prog 19 #[.slice (some ⟨g, 0, none⟩) n c, .int .i64 k0] w fun e w' => e = .returned (.int .i64 (k0 + t)) ∧ Mid lo hi w w' := by
  subst he
  have hA : SsAny w T lo hi g n D := ⟨D, fun i _ => rfl, h⟩
  have TT : ∀ j, j ≤ n → totL D j ≤ totL D n := fun j hj => totL_mono D hj
  clear h
  go_enter Try.func19, Try.ntmps19
  go_wp2
  go_loopw [1, 5] (fun v i wr => ∃ (j : Nat) (u : Int), j ≤ n ∧ i = .int .i64 j ∧ v = .int .i64 u ∧ Hid (u = k0 + totL D j) ∧ (k0 ≤ u ∧ u ≤ 1010000000) ∧ SsAny wr T lo hi g n D ∧ Mid lo hi w wr) (fun _ i _ => n - (intOf i).toNat)
  case atStart => exact ⟨0, k0, Nat.zero_le _, rfl, rfl, by show k0 = k0 + totL D 0; simp [totL], by omega, hA, Mid.refl _ _ _⟩
  case round =>
    clear hA
    obtain ⟨j, u, hj, rfl, rfl, hU, ⟨hu1, hu2⟩, hA, hm⟩ := hrel
    by_cases hlt : j < n
    · have hs := hm.size
      obtain ⟨a1, c1, b1, f1, x0, hb1, o1, k1⟩ := hA.at_ hlt
      have t1 := TT j (by omega)
      have t2 := TT (j + 1) (by omega)
      have t3 : totL D (j + 1) = totL D j + (D j).n := rfl
      have hU1 := hU.out
      have j0 : (0 : Int) ≤ (j : Int) := by omega
      have j1 : (j : Int) < (n : Int) := by omega
      have K1 := Lib.hid k1
      have n1 : (D j).n ≤ 1048576 := by omega
      have n3 : u + (D j).n ≤ 1010000000 := by omega
      have hU3 : Hid (u + (D j).n = k0 + totL D (j + 1)) := by show _ = _; omega
      clear k1 hA t1 t2 t3 hU1
      go_wp2_with fail
      refine (markInts a1 _ c1 b1 f1 u _ o1 (by omega) (by omega) (by omega)).mono ?_
      rintro e w1 ⟨rfl, p1, hg, h0⟩
      have hA := K1.out w1 _ hg p1
      have hm := hm.trans (Mid.of_grown hg hb1.1 hb1.2)
      clear p1 hg h0 o1 x0 K1
      go_wp2
      go_roundw
      case rel => exact ⟨j + 1, _, by omega, by go_num, rfl, hU3, by omega, hA, hm⟩
      case measure => simp [intOf]; omega
    · obtain rfl : j = n := by omega
      go_wp2
      go_ret
      exact ⟨ret_int hU.out, hm⟩
theorem toInts_ow (A : Option Addr) (n c : Nat) (f : Nat → Int) (w : World) (h : Rn w w.heap.size A n f) (hn : n ≤ 1048576) :
    Calls Try.prog 15 #[.slice A n c] w fun e w' => e = .returned (.slice (some ⟨w.heap.size, 0, none⟩) n n) ∧ (∃ b, (0 < n → w.heap.size ≤ b ∧ b < w'.heap.size) ∧ Ow w' b (some ⟨w.heap.size, 0, none⟩) n f) ∧ Below w.heap.size w w' :=
  (toInts A n c f _ w h (Nat.le_refl _) hn).mono fun _ _ ⟨he, ho, hl, hb⟩ => ⟨he, ⟨_, fun _ => ⟨Nat.le_refl _, hl⟩, ho⟩, hb⟩
theorem eqInts_self (A E : Option Addr) (n c d : Nat) (f : Nat → Int) (w : World) (h : Rn w w.heap.size A n f) (h2 : Rn w w.heap.size E n f) (hn : n ≤ 1048576) :
    Calls Try.prog 17 #[.slice A n c, .slice E n d] w fun e w' => e = .returned (.bool true) ∧ Below w.heap.size w w' :=
  (eqInts A n c f E n d f w h h2 (by omega) (by omega)).mono fun _ _ ⟨he, q, hq⟩ => ⟨by rw [he, eqI_self], by rw [hq]; exact below_dn (Below.refl _ _) q⟩
theorem markInts_ow2 (lo hi : Nat) (A : Option Addr) (n c : Nat) (f : Nat → Int) (k0 : Int) (w : World) (h : ∃ b, (0 < n → lo ≤ b ∧ b < hi) ∧ Ow w b A n f) (hk0 : 0 ≤ k0) (hk1 : k0 ≤ 1000000000) (hn : n ≤ 1048576) :
    Calls Try.prog 20 #[.slice A n c, .int .i64 k0] w fun e w' => e = .returned (.int .i64 (k0 + n)) ∧ (∃ b, (0 < n → lo ≤ b ∧ b < hi) ∧ Ow w' b A n (fun i => k0 + i)) ∧ Mid lo hi w w' := by
  obtain ⟨b, hb, ho⟩ := h
  refine (markInts A n c b f k0 w ho hk0 (by omega) (by omega)).mono ?_
  rintro e w' ⟨he, ho', hg, h0⟩
  refine ⟨he, ⟨b, hb, ho'⟩, ?_⟩
  by_cases hn0 : n = 0
  · rw [h0 hn0]; exact Mid.refl _ _ _
  · have := hb (by omega); exact Mid.of_grown hg this.1 this.2
theorem heldInts_b (A : Option Addr) (n c : Nat) (k0 : Int) (w : World) (h : Rn w w.heap.size A n (fun i => k0 + i)) (hk0 : 0 ≤ k0) (hk1 : k0 ≤ 1000000000) (hn : n ≤ 1048576) :
    Calls Try.prog 21 #[.slice A n c, .int .i64 k0] w fun e w' => e = .returned (.int .i64 (k0 + n)) ∧ Below w.heap.size w w' :=
  (heldInts A n c _ _ k0 w h (fun _ _ => rfl) hk0 (by omega) (by omega)).mono fun _ _ ⟨he, hw⟩ => ⟨he, by rw [← hw]; exact Below.refl _ _⟩
end Go.Proofs.Ytanfhgliilkhjaa
