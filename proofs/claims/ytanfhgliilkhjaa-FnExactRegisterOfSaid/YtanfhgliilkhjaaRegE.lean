/-
  Contracts of the small functions on slices of notes: szNoteS, toNoteS, eqNoteS, markNoteS, heldNoteS.
-/
import Derived.Test.YtanfhgliilkhjaaRegT
import Derived.Test.YtanfhgliilkhjaaRegK
import Derived.Deep.RegionHeld3
namespace Go.Proofs.Ytanfhgliilkhjaa
open Go.RowKit Go.Deep
set_option linter.unusedVariables false

/-- How many letters the first k notes have. -/
def totS (N : Nat → ND) : Nat → Nat
  | 0 => 0
  | k + 1 => totS N k + (N k).s.size
theorem totS_mono (N : Nat → ND) {k m : Nat} (h : k ≤ m) : totS N k ≤ totS N m := by
  induction m with
  | zero => rw [show k = 0 by omega]; exact Nat.le_refl _
  | succ m ih =>
    by_cases e : k = m + 1
    · subst e; exact Nat.le_refl _
    · have := ih (by omega)
      show _ ≤ totS N m + (N m).s.size
      omega
theorem totS_at (N : Nat → ND) {k n : Nat} (h : k < n) : (N k).s.size ≤ totS N n := by
  have := totS_mono N (show k + 1 ≤ n from h)
  have e : totS N (k + 1) = totS N k + (N k).s.size := rfl
  omega
/-- szNoteS. -/
def szW (n : Nat) (N : Nat → ND) (left : Int) : Int := if (n : Int) + totS N n ≤ left then left - n - totS N n else -1
theorem szW_yes {n : Nat} {N : Nat → ND} {left : Int} (h : (n : Int) + totS N n ≤ left) : szW n N left = left - n - totS N n := if_pos h
theorem szW_no {n : Nat} {N : Nat → ND} {left : Int} (h : ¬ (n : Int) + totS N n ≤ left) : szW n N left = -1 := if_neg h
theorem szNote_any (v : Int) (t : Int) (s : ByteArray) (left : Int) (w : World) (h0 : 0 ≤ left ∧ left ≤ 1048576) (hs : s.size ≤ 9223372036854775807) (hv : (if left - s.size < 0 then -1 else left - s.size) = v) :
    Calls Try.prog 56 #[.agg #[.int .i64 t, .string s], .int .i64 left] w fun e w' => e = .returned (.int .i64 v) ∧ Below w.heap.size w w' := by
  by_cases h : left - s.size < 0
  · rw [if_pos h] at hv
    have V := Lib.hid hv
    clear hv
    go_enter Try.func56, Try.ntmps56
    go_wp2
    go_ret
    exact ⟨ret_int V.out, by go_grown⟩
  · rw [if_neg h] at hv
    have V := Lib.hid hv
    clear hv
    go_enter Try.func56, Try.ntmps56
    go_wp2
    go_ret
    exact ⟨ret_int V.out, by go_grown⟩
set_option maxHeartbeats 2000000 in
theorem szNoteS_any (A : Option Addr) (n c : Nat) (N : Nat → ND) (left : Int) (w : World) (h : NsRn w w.heap.size A n N) (h0 : 0 ≤ left) (h1 : left ≤ 1048576) (hn : n ≤ 9223372036854775807) (hN : ∀ i, i < n → (N i).s.size ≤ 9223372036854775807) :
    Calls Try.prog 22 #[.slice A n c, .int .i64 left] w fun e w' => e = .returned (.int .i64 (szW n N left)) ∧ Below w.heap.size w w' := by
  by_cases hl : left - n < 0
  · have hr := hide (szW_no (n := n) (N := N) (left := left) (by omega))
    clear hN
    go_enter Try.func22, Try.ntmps22
    go_wp2
    go_ret
    exact ⟨ret_int hr.symm, by go_grown⟩
  have HN := Lib.hid hN
  clear hN
  go_enter Try.func22, Try.ntmps22
  go_wp2
  go_loopw [1, 5] (fun v i wr => ∃ (k : Nat) (t : Nat), k ≤ n ∧ i = .int .i64 k ∧ v = .int .i64 (left - n - (t : Int)) ∧ (n : Int) + t ≤ left ∧ Hid (totS N k = t) ∧ Below w.heap.size w wr) (fun _ i _ => n - (intOf i).toNat)
  case atStart => exact ⟨0, 0, Nat.zero_le _, rfl, by simp, by omega, rfl, Below.refl _ _⟩
  case round =>
    obtain ⟨k, t, hk, rfl, rfl, ht, hT, hb⟩ := hrel
    by_cases hlt : k < n
    · obtain ⟨b, off, rfl, hbB, hc⟩ := h (by omega)
      obtain ⟨x0, x1⟩ := hc k hlt
      have y0 := (hb.cell (p := ⟨b, off + k * 2, none⟩) hbB).trans x0
      have y1 := (hb.cell (p := ⟨b, off + k * 2 + 1, none⟩) hbB).trans x1
      have hs := HN.out k hlt
      have hstep : totS N (k + 1) = t + (N k).s.size := by show totS N k + (N k).s.size = _; rw [hT.out]
      have hsz := hb.size
      have hk0 : (0 : Int) ≤ (k : Int) := by omega
      have hk1 : (k : Int) < (n : Int) := by omega
      obtain ⟨z, hz⟩ : ∃ z, (N k).s.size = z := ⟨_, rfl⟩
      rw [hz] at hstep
      clear hc x0 x1
      by_cases hf : (t : Int) + z ≤ left - n
      · have hT2 := hide hstep
        have SZ := Lib.hid (fun W => szNote_any (left - n - (t : Int) - z) (N k).t (N k).s (left - n - (t : Int)) W (by omega) hs (by rw [hz, if_neg (by omega)]))
        clear hstep hs hz
        go_wp2_with fail
        refine (SZ.out _).mono ?_
        rintro e w1 ⟨rfl, hn1⟩
        have hb1 := bl hb (by omega) hn1
        clear hn1 SZ
        go_wp2
        go_roundw
        case rel => exact ⟨k + 1, t + z, by omega, by go_num, by go_num, by omega, hT2, hb1⟩
        case measure => simp [intOf]; omega
      · have hr := hide (szW_no (n := n) (N := N) (left := left) (by have := totS_mono N (show k + 1 ≤ n from hlt); rw [hstep] at this; omega))
        have SZ := Lib.hid (fun W => szNote_any (-1) (N k).t (N k).s (left - n - (t : Int)) W (by omega) hs (by rw [hz, if_pos (by omega)]))
        clear hstep hs hz
        go_wp2_with fail
        refine (SZ.out _).mono ?_
        rintro e w1 ⟨rfl, hn1⟩
        have hb1 := bl hb (by omega) hn1
        clear hn1 hf SZ
        go_wp2
        go_ret
        exact ⟨ret_int hr.symm, hb1⟩
    · obtain rfl : k = n := by omega
      have hr := hide (szW_yes (n := k) (N := N) (left := left) (by rw [hT.out]; exact ht))
      go_wp2
      go_ret
      exact ⟨ret_int (by rw [hr.out, hT.out]), hb⟩
/-- Cells of notes. -/
def noteF (N : Nat → ND) (j : Nat) : Value := if j % 2 = 0 then .int .i64 (N (j / 2)).t else .string (N (j / 2)).s
def zeroF (j : Nat) : Value := if j % 2 = 0 then .int .i64 0 else .string ⟨#[]⟩
theorem madeN (w : World) (n : Nat) (T : TypeId) : (w.alloc (.cells (madeCells #[.int .i64 0, .string ⟨#[]⟩] n) T)).rowIs w.heap.size T n zeroF :=
  ⟨_, Go.Deep.blk_alloc_new _ _, size_madeCells _ _, fun i hi => by
    have h2 : i % 2 = 0 ∨ i % 2 = 1 := by omega
    rcases h2 with h2 | h2 <;> simp [madeCells, hi, h2, zeroF]⟩
theorem noteF_0 (N : Nat → ND) (i : Nat) : noteF N (i * 2) = .int .i64 (N i).t := by unfold noteF; rw [if_pos (by omega), show i * 2 / 2 = i by omega]
theorem noteF_1 (N : Nat → ND) (i : Nat) : noteF N (i * 2 + 1) = .string (N i).s := by unfold noteF; rw [if_neg (by omega), show (i * 2 + 1) / 2 = i by omega]
def partN (N : Nat → ND) (k j : Nat) : Value := if j < k * 2 then noteF N j else zeroF j
theorem partN_step {w : World} {b T n k : Nat} {N : Nat → ND} (h : w.rowIs b T n (partN N k)) : ((w.setCell ⟨b, k * 2, none⟩ (.int .i64 (N k).t)).setCell ⟨b, k * 2 + 1, none⟩ (.string (N k).s)).rowIs b T n (partN N (k + 1)) :=
  ((h.set (i := k * 2) (v := .int .i64 (N k).t)).set (i := k * 2 + 1) (v := .string (N k).s)).congr fun j _ => by
    unfold partN
    by_cases e2 : j = k * 2 + 1
    · subst e2; rw [if_pos rfl, if_pos (by omega), noteF_1]
    · rw [if_neg e2]
      by_cases e1 : j = k * 2
      · subst e1; rw [if_pos rfl, if_pos (by omega), noteF_0]
      · rw [if_neg e1]
        by_cases e3 : j < k * 2
        · rw [if_pos e3, if_pos (by omega)]
        · rw [if_neg e3, if_neg (by omega)]
theorem NsOw.of_row {w : World} {b T n : Nat} {N : Nat → ND} (h : w.rowIs b T (n * 2) (noteF N)) : NsOw w b (some ⟨b, 0, none⟩) n N := fun h0 =>
  ⟨0, rfl, h.lt, fun i => h.frozen i, fun i hi => ⟨by rw [Nat.zero_add, h.cell (by omega), noteF_0], by rw [Nat.zero_add, h.cell (by omega), noteF_1]⟩⟩
theorem toNote_any (t : Int) (s : ByteArray) (w : World) :
    Calls Try.prog 58 #[.agg #[.int .i64 t, .string s]] w fun e w' => e = .returned (.agg #[.int .i64 t, .string s]) ∧ Below w.heap.size w w' := by
  go_enter Try.func58, Try.ntmps58
  go_wp2
  refine bodyPost_ret (by simp [results, Try.results58, go_sem, *]; rfl) rfl ?_
  exact ⟨rfl, by go_grown⟩
set_option maxRecDepth 100000 in
set_option maxHeartbeats 2000000 in
theorem toNoteS_any (A : Option Addr) (n c : Nat) (N : Nat → ND) (w : World) (h : NsRn w w.heap.size A n N) (hn : n ≤ 1048576) :
    Calls Try.prog 24 #[.slice A n c] w fun e w' => e = .returned (.slice (some ⟨w.heap.size, 0, none⟩) n n) ∧ (∃ b, (0 < n → w.heap.size ≤ b ∧ b < w'.heap.size) ∧ NsOw w' b (some ⟨w.heap.size, 0, none⟩) n N) ∧ Below w.heap.size w w' := by
  obtain ⟨i0, ji0, jz0, jz1, jz2⟩ := info_parts noteInfo
  have hmk := fun W : World => run_make (P := Try.prog) W 36 71 i0 (.agg #[.int .i64 0, .string ⟨#[]⟩]) Try.underlying36 ji0 jz0 .i64 .i64 n n (by omega) (by omega) (by rw [jz2]; omega) (by omega)
  simp only [Int.toNat_natCast, jz1] at hmk
  have hrow := Lib.hid (madeN w (n * 2) 71)
  clear ji0 jz0 jz1 jz2
  go_enter Try.func24, Try.ntmps24
  go_wp2
  go_loopw [4] (fun i wr => ∃ k : Nat, k ≤ n ∧ i = .int .i64 k ∧ wr.rowIs w.heap.size 71 (n * 2) (partN N k) ∧ Below w.heap.size w wr ∧ w.heap.size < wr.heap.size) (fun i _ => n - (intOf i).toNat)
  case atStart => exact ⟨0, Nat.zero_le _, rfl, hrow.out.congr (fun j _ => by unfold partN; rw [if_neg (by omega)]), by go_grown, by simp⟩
  case round =>
    clear hmk hrow
    obtain ⟨k, hk, rfl, hr, hb, hsz⟩ := hrel
    by_cases hlt : k < n
    · obtain ⟨b, off, rfl, hbB, hc⟩ := h (by omega)
      obtain ⟨x0, x1⟩ := hc k hlt
      have y0 := (hb.cell (p := ⟨b, off + k * 2, none⟩) hbB).trans x0
      have y1 := (hb.cell (p := ⟨b, off + k * 2 + 1, none⟩) hbB).trans x1
      have HR := Lib.hid hr
      have hk0 : (0 : Int) ≤ (k : Int) := by omega
      have hk1 : (k : Int) < (n : Int) := by omega
      clear hc x0 x1 hr
      go_wp2_with fail
      refine (toNote_any _ _ _).mono ?_
      rintro e w1 ⟨rfl, hn1⟩
      have hb1 : Below w.heap.size w w1 := bl hb (by omega) hn1
      have hrl : w1.rowIs w.heap.size 71 (n * 2) (partN N k) := by
        obtain ⟨cs, e1, e2, e3⟩ := HR.out
        exact ⟨cs, (hn1.block _ hsz).trans e1, e2, e3⟩
      have z0 := hrl.cell (i := k * 2) (by omega)
      have z1 := hrl.cell (i := k * 2 + 1) (by omega)
      have f0 := hrl.frozen (k * 2)
      have f1 := hrl.frozen (k * 2 + 1)
      have hl1 : w.heap.size < w1.heap.size := by have := hn1.size; omega
      have ST := Lib.hid (partN_step hrl)
      clear hn1 hrl HR y0 y1 hb
      go_wp2
      go_roundw
      case rel => exact ⟨k + 1, by omega, by go_num, by simpa using ST.out, by go_grown, by simpa [World.setCell] using hl1⟩
      case measure => simp [intOf]; omega
    · obtain rfl : k = n := by omega
      have HR := Lib.hid hr
      clear hr
      go_wp2
      go_ret
      exact ⟨rfl, ⟨w.heap.size, fun _ => ⟨Nat.le_refl _, hsz⟩, NsOw.of_row (HR.out.congr (fun j hj => by unfold partN; rw [if_pos (by omega)]))⟩, hb⟩
theorem eqNote_self (t : Int) (s : ByteArray) (w : World) :
    Calls Try.prog 60 #[.agg #[.int .i64 t, .string s], .agg #[.int .i64 t, .string s]] w fun e w' => e = .returned (.bool true) ∧ Below w.heap.size w w' := by
  go_enter Try.func60, Try.ntmps60
  go_wp2
  go_ret
  exact ⟨rfl, by go_grown⟩
set_option maxHeartbeats 2000000 in
theorem eqNoteS_self (A E : Option Addr) (n c d : Nat) (N : Nat → ND) (w : World) (h : NsRn w w.heap.size A n N) (h2 : NsRn w w.heap.size E n N) (hn : n ≤ 1048576) :
    Calls Try.prog 26 #[.slice A n c, .slice E n d] w fun e w' => e = .returned (.bool true) ∧ Below w.heap.size w w' := by
  have hd : ((n : Int) != (n : Int)) = false := eq_lit rfl
  have H := Lib.hid h
  have H2 := Lib.hid h2
  clear h h2
  go_enter Try.func26, Try.ntmps26
  go_wp2
  go_loopw [5] (fun i wr => ∃ k : Nat, k ≤ n ∧ i = .int .i64 k ∧ Below w.heap.size w wr) (fun i _ => n - (intOf i).toNat)
  case atStart => exact ⟨0, Nat.zero_le _, rfl, Below.refl _ _⟩
  case round =>
    obtain ⟨k, hk, rfl, hb⟩ := hrel
    have hsz := hb.size
    by_cases hlt : k < n
    · obtain ⟨b, off, rfl, hbB, hc⟩ := H.out (by omega)
      obtain ⟨b', off', rfl, hbB', hc'⟩ := H2.out (by omega)
      obtain ⟨q0, q1⟩ := hc k hlt
      obtain ⟨q2, q3⟩ := hc' k hlt
      have x0 := (hb.cell (p := ⟨b, off + k * 2, none⟩) hbB).trans q0
      have x1 := (hb.cell (p := ⟨b, off + k * 2 + 1, none⟩) hbB).trans q1
      have y0 := (hb.cell (p := ⟨b', off' + k * 2, none⟩) hbB').trans q2
      have y1 := (hb.cell (p := ⟨b', off' + k * 2 + 1, none⟩) hbB').trans q3
      have hk0 : (0 : Int) ≤ (k : Int) := by omega
      have hk1 : (k : Int) < (n : Int) := by omega
      clear hc hc' q0 q1 q2 q3
      go_wp2_with fail
      go_region_held3 (fun V => V.cell? ⟨b, off + k * 2, none⟩ = some (.int .i64 (N k).t) ∧ V.cell? ⟨b, off + k * 2 + 1, none⟩ = some (.string (N k).s) ∧ V.cell? ⟨b', off' + k * 2, none⟩ = some (.int .i64 (N k).t) ∧ V.cell? ⟨b', off' + k * 2 + 1, none⟩ = some (.string (N k).s)) (go_keep)
        (first | (go_at_call 60; refine (eqNote_self _ _ _).mono ?_; rintro e w1 ⟨rfl, hn1⟩; have hn1 := undrew hn1; have z0 := (hn1.cell (p := ⟨b, off + k * 2, none⟩) (by simp; omega)).trans x0; have z1 := (hn1.cell (p := ⟨b, off + k * 2 + 1, none⟩) (by simp; omega)).trans x1; have z2 := (hn1.cell (p := ⟨b', off' + k * 2, none⟩) (by simp; omega)).trans y0; have z3 := (hn1.cell (p := ⟨b', off' + k * 2 + 1, none⟩) (by simp; omega)).trans y1))
      have hb1 := bl hb (Nat.le_refl _) hn1
      clear hb hn1 z0 z1 z2 z3 x0 x1 y0 y1
      go_wp2
      go_roundw
      case rel => exact ⟨k + 1, by omega, by go_num, hb1⟩
      case measure => simp [intOf]; omega
    · obtain rfl : k = n := by omega
      go_wp2
      go_ret
      exact ⟨rfl, hb⟩
/-- Notes that markNoteS has marked. -/
def markN (k0 : Nat) : Nat → ND := fun i => ⟨(k0 : Int) + (i : Int) * 2, mkT (k0 + i * 2 + 1) ⟨#[]⟩⟩
def partM (k0 : Nat) (N : Nat → ND) (k i : Nat) : ND := if i < k then markN k0 i else N i
theorem NsOw.put {w : World} {b off n k k0 : Nat} {N : Nat → ND} (hk : k < n) (h : NsOw w b (some ⟨b, off, none⟩) n (partM k0 N k)) (w1 : World) (hb : Below (w.setCell ⟨b, off + k * 2, none⟩ (.int .i64 ((k0 : Int) + (k : Int) * 2))).heap.size (w.setCell ⟨b, off + k * 2, none⟩ (.int .i64 ((k0 : Int) + (k : Int) * 2))) w1) :
    NsOw (w1.setCell ⟨b, off + k * 2 + 1, none⟩ (.string (mkT (k0 + k * 2 + 1) ⟨#[]⟩))) b (some ⟨b, off, none⟩) n (partM k0 N (k + 1)) := fun hn => by
  obtain ⟨off', e, hlt, hf, hc⟩ := h hn
  simp only [Option.some.injEq, Addr.mk.injEq, true_and, and_true] at e
  subst e
  have hs : b < (w.setCell ⟨b, off + k * 2, none⟩ (.int .i64 ((k0 : Int) + (k : Int) * 2))).heap.size := by simpa [World.setCell] using hlt
  have hs1 := hb.size
  refine ⟨off, rfl, by simp [World.setCell] at hs1 ⊢; omega, fun i => ?_, fun i hi => ?_⟩
  · rw [World.frozen?_setCell, hb.frozen (p := ⟨b, i, none⟩) hs, World.frozen?_setCell]; exact hf i
  · obtain ⟨c0, c1⟩ := hc i hi
    obtain ⟨d0, d1⟩ := hc k hk
    by_cases ei : i = k
    · subst ei
      refine ⟨?_, ?_⟩
      · rw [World.cell?_setCell_other _ _ _ _ (by simp), hb.cell (p := ⟨b, off + i * 2, none⟩) hs, World.cell?_setCell_same _ _ _ d0]
        simp [partM, markN]
      · have : w1.cell? ⟨b, off + i * 2 + 1, none⟩ = some (.string (partM k0 N i i).s) := by
          rw [hb.cell (p := ⟨b, off + i * 2 + 1, none⟩) hs, World.cell?_setCell_other _ _ _ _ (by simp), d1]
        rw [World.cell?_setCell_same _ _ _ this]
        simp [partM, markN]
    · have e : partM k0 N (k + 1) i = partM k0 N k i := by
        unfold partM
        by_cases c : i < k
        · rw [if_pos c, if_pos (by omega)]
        · rw [if_neg c, if_neg (by omega)]
      rw [e]
      refine ⟨?_, ?_⟩
      · rw [World.cell?_setCell_other _ _ _ _ (by first | (simp; done) | (simp; omega)), hb.cell (p := ⟨b, off + i * 2, none⟩) hs, World.cell?_setCell_other _ _ _ _ (by first | (simp; done) | (simp; omega)), c0]
      · rw [World.cell?_setCell_other _ _ _ _ (by first | (simp; done) | (simp; omega)), hb.cell (p := ⟨b, off + i * 2 + 1, none⟩) hs, World.cell?_setCell_other _ _ _ _ (by first | (simp; done) | (simp; omega)), c1]
set_option maxRecDepth 100000 in
set_option maxHeartbeats 2000000 in
theorem markNoteS_any (A : Option Addr) (n c b : Nat) (N : Nat → ND) (k0 : Nat) (w : World) (h : NsOw w b A n N) (hk0 : 1 ≤ k0) (hk1 : k0 ≤ 1000000000) (hn : n ≤ 1048576) :
    Calls Try.prog 33 #[.slice A n c, .int .i64 (k0 : Int)] w fun e w' => e = .returned (.int .i64 ((k0 : Int) + (n : Int) * 2)) ∧ NsOw w' b A n (markN k0) ∧ w.grownBy w' (some b) := by
  go_enter Try.func33, Try.ntmps33
  go_wp2
  go_loopw [1, 5] (fun v i wr => ∃ k : Nat, k ≤ n ∧ i = .int .i64 k ∧ v = .int .i64 ((k0 : Int) + (k : Int) * 2) ∧ NsOw wr b A n (partM k0 N k) ∧ w.grownBy wr (some b)) (fun _ i _ => n - (intOf i).toNat)
  case atStart => exact ⟨0, Nat.zero_le _, rfl, by simp, h.congr (fun i _ => by simp [partM]), gb_refl _ _⟩
  case round =>
    obtain ⟨k, hk, rfl, rfl, hO, hg⟩ := hrel
    clear h
    by_cases hlt : k < n
    · obtain ⟨off, rfl, hbB, hf, hc⟩ := hO (by omega)
      obtain ⟨x0, x1⟩ := hc k hlt
      have f0 := hf (off + k * 2)
      have f1 := hf (off + k * 2 + 1)
      have HO := Lib.hid hO
      have HG := Lib.hid hg
      have hk2 : (0 : Int) ≤ (k : Int) := by omega
      have hk3 : (k : Int) < (n : Int) := by omega
      have MT := Lib.hid (fun W : World => markText_any (k0 + k * 2 + 1) W (by omega))
      have e1 : ((k0 + k * 2 + 1 : Nat) : Int) = (k0 : Int) + (k : Int) * 2 + 1 := by omega
      rw [e1] at MT
      clear hc hf hO hg e1
      go_wp2_with fail
      refine (MT.out _).mono ?_
      rintro e w1 ⟨rfl, hn1⟩
      have HG1 := Lib.hid (gb_below (gb_setCell HG.out (.inl rfl) _) hn1)
      have hs : b < (wr.setCell ⟨b, off + k * 2, none⟩ (.int .i64 ((k0 : Int) + (k : Int) * 2))).heap.size := by simpa [World.setCell] using hbB
      have z1 : w1.cell? ⟨b, off + k * 2 + 1, none⟩ = some (.string (partM k0 N k k).s) := by
        rw [hn1.cell (p := ⟨b, off + k * 2 + 1, none⟩) hs, World.cell?_setCell_other _ _ _ _ (by simp), x1]
      have g1 : w1.frozen? ⟨b, off + k * 2 + 1, none⟩ = false := by
        rw [hn1.frozen (p := ⟨b, off + k * 2 + 1, none⟩) hs, World.frozen?_setCell]; exact f1
      have l1 : b < w1.heap.size := by have := hn1.size; omega
      have ST := Lib.hid (HO.out.put hlt w1 hn1)
      clear hn1 x0 x1 f0 f1 HG HO MT hs
      go_wp2
      go_roundw
      case rel => exact ⟨k + 1, by omega, by go_num, by go_num, ST.out, gb_setCell HG1.out (.inl rfl) _⟩
      case measure => simp [intOf]; omega
    · obtain rfl : k = n := by omega
      go_wp2
      go_ret
      exact ⟨rfl, hO.congr (fun j hj => by simp [partM, hj]), hg⟩
set_option maxRecDepth 100000 in
set_option maxHeartbeats 2000000 in
theorem heldNoteS_any (A : Option Addr) (n c : Nat) (k0 : Nat) (w : World) (h : NsRn w w.heap.size A n (markN k0)) (hk0 : 1 ≤ k0) (hk1 : k0 ≤ 1000000000) (hn : n ≤ 1048576) :
    Calls Try.prog 34 #[.slice A n c, .int .i64 (k0 : Int)] w fun e w' => e = .returned (.int .i64 ((k0 : Int) + (n : Int) * 2)) ∧ Below w.heap.size w w' := by
  have H := Lib.hid h
  clear h
  go_enter Try.func34, Try.ntmps34
  go_wp2
  go_loopw [1, 5] (fun v i wr => ∃ k : Nat, k ≤ n ∧ i = .int .i64 k ∧ v = .int .i64 ((k0 : Int) + (k : Int) * 2) ∧ Below w.heap.size w wr) (fun _ i _ => n - (intOf i).toNat)
  case atStart => exact ⟨0, Nat.zero_le _, rfl, by simp, Below.refl _ _⟩
  case round =>
    obtain ⟨k, hk, rfl, rfl, hb⟩ := hrel
    have hsz := hb.size
    by_cases hlt : k < n
    · obtain ⟨b, off, rfl, hbB, hc⟩ := H.out (by omega)
      obtain ⟨q0, q1⟩ := hc k hlt
      have x0 : wr.cell? ⟨b, off + k * 2, none⟩ = some (.int .i64 ((k0 : Int) + (k : Int) * 2)) := (hb.cell (p := ⟨b, off + k * 2, none⟩) hbB).trans q0
      have x1 : wr.cell? ⟨b, off + k * 2 + 1, none⟩ = some (.string (mkT (k0 + k * 2 + 1) ⟨#[]⟩)) := (hb.cell (p := ⟨b, off + k * 2 + 1, none⟩) hbB).trans q1
      have hk2 : (0 : Int) ≤ (k : Int) := by omega
      have hk3 : (k : Int) < (n : Int) := by omega
      have MT := Lib.hid (fun W : World => markText_any (k0 + k * 2 + 1) W (by omega))
      have e1 : ((k0 + k * 2 + 1 : Nat) : Int) = (k0 : Int) + (k : Int) * 2 + 1 := by omega
      have hne := eq_lit (rfl : (k0 : Int) + (k : Int) * 2 = (k0 : Int) + (k : Int) * 2)
      rw [e1] at MT
      obtain ⟨tx, htx⟩ : ∃ tx, mkT (k0 + k * 2 + 1) ⟨#[]⟩ = tx := ⟨_, rfl⟩
      rw [htx] at x1 MT
      clear hc q0 q1 e1 htx
      go_wp2_with fail
      go_region_held3 (fun V => V.cell? ⟨b, off + k * 2 + 1, none⟩ = some (.string tx)) (go_keep)
        (first | (go_at_call 70; refine (MT.out _).mono ?_; rintro e w1 ⟨rfl, hn1⟩; have hn1 := undrew hn1; have z1 := (hn1.cell (p := ⟨b, off + k * 2 + 1, none⟩) (by simp; omega)).trans x1))
      have hb1 := bl hb (Nat.le_refl _) hn1
      clear hb hn1 z1 x0 x1 MT
      go_wp2
      go_roundw
      case rel => exact ⟨k + 1, by omega, by go_num, by go_num, hb1⟩
      case measure => simp [intOf]; omega
    · obtain rfl : k = n := by omega
      go_wp2
      go_ret
      exact ⟨rfl, hb⟩
end Go.Proofs.Ytanfhgliilkhjaa
