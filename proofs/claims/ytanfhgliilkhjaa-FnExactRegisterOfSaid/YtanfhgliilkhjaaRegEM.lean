/-
  Contracts of the small functions on slices of moves (printed by program out of those on notes).
-/
import Derived.Test.YtanfhgliilkhjaaRegF
namespace Go.Proofs.Ytanfhgliilkhjaa
open Go.RowKit Go.Deep
set_option linter.unusedVariables false

theorem moveInfo : (Try.prog.info? 108).map (fun i => (i.zero, i.size, i.bytes)) = some (some (.agg #[.int .i64 0, .string ⟨#[]⟩]), 2, 24) := by kernel_rfl
theorem szMove_any (v : Int) (t : Int) (s : ByteArray) (left : Int) (w : World) (h0 : 0 ≤ left ∧ left ≤ 1048576) (hs : s.size ≤ 9223372036854775807) (hv : (if left - s.size < 0 then -1 else left - s.size) = v) :
    Calls Try.prog 80 #[.agg #[.int .i64 t, .string s], .int .i64 left] w fun e w' => e = .returned (.int .i64 v) ∧ Below w.heap.size w w' := by
  by_cases h : left - s.size < 0
  · rw [if_pos h] at hv
    have V := Lib.hid hv
    clear hv
    go_enter Try.func80, Try.ntmps80
    go_wp2
    go_ret
    exact ⟨ret_int V.out, by go_grown⟩
  · rw [if_neg h] at hv
    have V := Lib.hid hv
    clear hv
    go_enter Try.func80, Try.ntmps80
    go_wp2
    go_ret
    exact ⟨ret_int V.out, by go_grown⟩
set_option maxHeartbeats 2000000 in
theorem szMoveS_any (A : Option Addr) (n c : Nat) (N : Nat → ND) (left : Int) (w : World) (h : NsRn w w.heap.size A n N) (h0 : 0 ≤ left) (h1 : left ≤ 1048576) (hn : n ≤ 9223372036854775807) (hN : ∀ i, i < n → (N i).s.size ≤ 9223372036854775807) :
    Calls Try.prog 45 #[.slice A n c, .int .i64 left] w fun e w' => e = .returned (.int .i64 (szW n N left)) ∧ Below w.heap.size w w' := by
  by_cases hl : left - n < 0
  · have hr := hide (szW_no (n := n) (N := N) (left := left) (by omega))
    clear hN
    go_enter Try.func45, Try.ntmps45
    go_wp2
    go_ret
    exact ⟨ret_int hr.symm, by go_grown⟩
  have HN := Lib.hid hN
  clear hN
  go_enter Try.func45, Try.ntmps45
  go_wp2
  go_loopw [1, 5] (fun v i wr => ∃ (k : Nat) (t : Nat), k ≤ n ∧ i = .int .i64 k ∧ v = .int .i64 (left - n - (t : Int)) ∧ (n : Int) + t ≤ left ∧ Hid (totS N k = t) ∧ Below w.heap.size w wr) (fun _ i _ => n - (intOf i).toNat)
  case atStart => exact ⟨0, 0, Nat.zero_le _, rfl, by simp, by omega, rfl, Below.refl _ _⟩
  case round =>
    obtain ⟨k, t, hk, rfl, rfl, ht, hT, hb⟩ := hrel
    by_cases hlt : k < n
    · obtain ⟨b, off, rfl, hbB, hc⟩ := h (by omega)
      obtain ⟨x0, x1⟩ := hc k hlt
      have y0 := (hb.cell (p := ⟨b, off + k * 2, none⟩) hbB).trans x0
      have y1 := (hb.cell (p := ⟨b, off + k * 2 + 1, none⟩) hbB).trans x1
      have hs := HN.out k hlt
      have hstep : totS N (k + 1) = t + (N k).s.size := by show totS N k + (N k).s.size = _; rw [hT.out]
      have hsz := hb.size
      have hk0 : (0 : Int) ≤ (k : Int) := by omega
      have hk1 : (k : Int) < (n : Int) := by omega
      obtain ⟨z, hz⟩ : ∃ z, (N k).s.size = z := ⟨_, rfl⟩
      rw [hz] at hstep
      clear hc x0 x1
      by_cases hf : (t : Int) + z ≤ left - n
      · have hT2 := hide hstep
        have SZ := Lib.hid (fun W => szMove_any (left - n - (t : Int) - z) (N k).t (N k).s (left - n - (t : Int)) W (by omega) hs (by rw [hz, if_neg (by omega)]))
        clear hstep hs hz
        go_wp2_with fail
        refine (SZ.out _).mono ?_
        rintro e w1 ⟨rfl, hn1⟩
        have hb1 := bl hb (by omega) hn1
        clear hn1 SZ
        go_wp2
        go_roundw
        case rel => exact ⟨k + 1, t + z, by omega, by go_num, by go_num, by omega, hT2, hb1⟩
        case measure => simp [intOf]; omega
      · have hr := hide (szW_no (n := n) (N := N) (left := left) (by have := totS_mono N (show k + 1 ≤ n from hlt); rw [hstep] at this; omega))
        have SZ := Lib.hid (fun W => szMove_any (-1) (N k).t (N k).s (left - n - (t : Int)) W (by omega) hs (by rw [hz, if_pos (by omega)]))
        clear hstep hs hz
        go_wp2_with fail
        refine (SZ.out _).mono ?_
        rintro e w1 ⟨rfl, hn1⟩
        have hb1 := bl hb (by omega) hn1
        clear hn1 hf SZ
        go_wp2
        go_ret
        exact ⟨ret_int hr.symm, hb1⟩
    · obtain rfl : k = n := by omega
      have hr := hide (szW_yes (n := k) (N := N) (left := left) (by rw [hT.out]; exact ht))
      go_wp2
      go_ret
      exact ⟨ret_int (by rw [hr.out, hT.out]), hb⟩
theorem toMove_any (t : Int) (s : ByteArray) (w : World) :
    Calls Try.prog 81 #[.agg #[.int .i64 t, .string s]] w fun e w' => e = .returned (.agg #[.int .i64 t, .string s]) ∧ Below w.heap.size w w' := by
  go_enter Try.func81, Try.ntmps81
  go_wp2
  refine bodyPost_ret (by simp [results, Try.results81, go_sem, *]; rfl) rfl ?_
  exact ⟨rfl, by go_grown⟩
set_option maxRecDepth 100000 in
set_option maxHeartbeats 2000000 in
theorem toMoveS_any (A : Option Addr) (n c : Nat) (N : Nat → ND) (w : World) (h : NsRn w w.heap.size A n N) (hn : n ≤ 1048576) :
    Calls Try.prog 47 #[.slice A n c] w fun e w' => e = .returned (.slice (some ⟨w.heap.size, 0, none⟩) n n) ∧ (∃ b, (0 < n → w.heap.size ≤ b ∧ b < w'.heap.size) ∧ NsOw w' b (some ⟨w.heap.size, 0, none⟩) n N) ∧ Below w.heap.size w w' := by
  obtain ⟨i0, ji0, jz0, jz1, jz2⟩ := info_parts moveInfo
  have hmk := fun W : World => run_make (P := Try.prog) W 57 108 i0 (.agg #[.int .i64 0, .string ⟨#[]⟩]) Try.underlying57 ji0 jz0 .i64 .i64 n n (by omega) (by omega) (by rw [jz2]; omega) (by omega)
  simp only [Int.toNat_natCast, jz1] at hmk
  have hrow := Lib.hid (madeN w (n * 2) 108)
  clear ji0 jz0 jz1 jz2
  go_enter Try.func47, Try.ntmps47
  go_wp2
  go_loopw [4] (fun i wr => ∃ k : Nat, k ≤ n ∧ i = .int .i64 k ∧ wr.rowIs w.heap.size 108 (n * 2) (partN N k) ∧ Below w.heap.size w wr ∧ w.heap.size < wr.heap.size) (fun i _ => n - (intOf i).toNat)
  case atStart => exact ⟨0, Nat.zero_le _, rfl, hrow.out.congr (fun j _ => by unfold partN; rw [if_neg (by omega)]), by go_grown, by simp⟩
  case round =>
    clear hmk hrow
    obtain ⟨k, hk, rfl, hr, hb, hsz⟩ := hrel
    by_cases hlt : k < n
    · obtain ⟨b, off, rfl, hbB, hc⟩ := h (by omega)
      obtain ⟨x0, x1⟩ := hc k hlt
      have y0 := (hb.cell (p := ⟨b, off + k * 2, none⟩) hbB).trans x0
      have y1 := (hb.cell (p := ⟨b, off + k * 2 + 1, none⟩) hbB).trans x1
      have HR := Lib.hid hr
      have hk0 : (0 : Int) ≤ (k : Int) := by omega
      have hk1 : (k : Int) < (n : Int) := by omega
      clear hc x0 x1 hr
      go_wp2_with fail
      refine (toMove_any _ _ _).mono ?_
      rintro e w1 ⟨rfl, hn1⟩
      have hb1 : Below w.heap.size w w1 := bl hb (by omega) hn1
      have hrl : w1.rowIs w.heap.size 108 (n * 2) (partN N k) := by
        obtain ⟨cs, e1, e2, e3⟩ := HR.out
        exact ⟨cs, (hn1.block _ hsz).trans e1, e2, e3⟩
      have z0 := hrl.cell (i := k * 2) (by omega)
      have z1 := hrl.cell (i := k * 2 + 1) (by omega)
      have f0 := hrl.frozen (k * 2)
      have f1 := hrl.frozen (k * 2 + 1)
      have hl1 : w.heap.size < w1.heap.size := by have := hn1.size; omega
      have ST := Lib.hid (partN_step hrl)
      clear hn1 hrl HR y0 y1 hb
      go_wp2
      go_roundw
      case rel => exact ⟨k + 1, by omega, by go_num, by simpa using ST.out, by go_grown, by simpa [World.setCell] using hl1⟩
      case measure => simp [intOf]; omega
    · obtain rfl : k = n := by omega
      have HR := Lib.hid hr
      clear hr
      go_wp2
      go_ret
      exact ⟨rfl, ⟨w.heap.size, fun _ => ⟨Nat.le_refl _, hsz⟩, NsOw.of_row (HR.out.congr (fun j hj => by unfold partN; rw [if_pos (by omega)]))⟩, hb⟩
theorem eqMove_self (t : Int) (s : ByteArray) (w : World) :
    Calls Try.prog 82 #[.agg #[.int .i64 t, .string s], .agg #[.int .i64 t, .string s]] w fun e w' => e = .returned (.bool true) ∧ Below w.heap.size w w' := by
  go_enter Try.func82, Try.ntmps82
  go_wp2
  go_ret
  exact ⟨rfl, by go_grown⟩
set_option maxHeartbeats 2000000 in
theorem eqMoveS_self (A E : Option Addr) (n c d : Nat) (N : Nat → ND) (w : World) (h : NsRn w w.heap.size A n N) (h2 : NsRn w w.heap.size E n N) (hn : n ≤ 1048576) :
    Calls Try.prog 49 #[.slice A n c, .slice E n d] w fun e w' => e = .returned (.bool true) ∧ Below w.heap.size w w' := by
  have hd : ((n : Int) != (n : Int)) = false := eq_lit rfl
  have H := Lib.hid h
  have H2 := Lib.hid h2
  clear h h2
  go_enter Try.func49, Try.ntmps49
  go_wp2
  go_loopw [5] (fun i wr => ∃ k : Nat, k ≤ n ∧ i = .int .i64 k ∧ Below w.heap.size w wr) (fun i _ => n - (intOf i).toNat)
  case atStart => exact ⟨0, Nat.zero_le _, rfl, Below.refl _ _⟩
  case round =>
    obtain ⟨k, hk, rfl, hb⟩ := hrel
    have hsz := hb.size
    by_cases hlt : k < n
    · obtain ⟨b, off, rfl, hbB, hc⟩ := H.out (by omega)
      obtain ⟨b', off', rfl, hbB', hc'⟩ := H2.out (by omega)
      obtain ⟨q0, q1⟩ := hc k hlt
      obtain ⟨q2, q3⟩ := hc' k hlt
      have x0 := (hb.cell (p := ⟨b, off + k * 2, none⟩) hbB).trans q0
      have x1 := (hb.cell (p := ⟨b, off + k * 2 + 1, none⟩) hbB).trans q1
      have y0 := (hb.cell (p := ⟨b', off' + k * 2, none⟩) hbB').trans q2
      have y1 := (hb.cell (p := ⟨b', off' + k * 2 + 1, none⟩) hbB').trans q3
      have hk0 : (0 : Int) ≤ (k : Int) := by omega
      have hk1 : (k : Int) < (n : Int) := by omega
      clear hc hc' q0 q1 q2 q3
      go_wp2_with fail
      go_region_held3 (fun V => V.cell? ⟨b, off + k * 2, none⟩ = some (.int .i64 (N k).t) ∧ V.cell? ⟨b, off + k * 2 + 1, none⟩ = some (.string (N k).s) ∧ V.cell? ⟨b', off' + k * 2, none⟩ = some (.int .i64 (N k).t) ∧ V.cell? ⟨b', off' + k * 2 + 1, none⟩ = some (.string (N k).s)) (go_keep)
        (first | (go_at_call 82; refine (eqMove_self _ _ _).mono ?_; rintro e w1 ⟨rfl, hn1⟩; have hn1 := undrew hn1; have z0 := (hn1.cell (p := ⟨b, off + k * 2, none⟩) (by simp; omega)).trans x0; have z1 := (hn1.cell (p := ⟨b, off + k * 2 + 1, none⟩) (by simp; omega)).trans x1; have z2 := (hn1.cell (p := ⟨b', off' + k * 2, none⟩) (by simp; omega)).trans y0; have z3 := (hn1.cell (p := ⟨b', off' + k * 2 + 1, none⟩) (by simp; omega)).trans y1))
      have hb1 := bl hb (Nat.le_refl _) hn1
      clear hb hn1 z0 z1 z2 z3 x0 x1 y0 y1
      go_wp2
      go_roundw
      case rel => exact ⟨k + 1, by omega, by go_num, hb1⟩
      case measure => simp [intOf]; omega
    · obtain rfl : k = n := by omega
      go_wp2
      go_ret
      exact ⟨rfl, hb⟩
set_option maxRecDepth 100000 in
set_option maxHeartbeats 2000000 in
theorem markMoveS_any (A : Option Addr) (n c b : Nat) (N : Nat → ND) (k0 : Nat) (w : World) (h : NsOw w b A n N) (hk0 : 1 ≤ k0) (hk1 : k0 ≤ 1000000000) (hn : n ≤ 1048576) :
    Calls Try.prog 50 #[.slice A n c, .int .i64 (k0 : Int)] w fun e w' => e = .returned (.int .i64 ((k0 : Int) + (n : Int) * 2)) ∧ NsOw w' b A n (markN k0) ∧ w.grownBy w' (some b) := by
  go_enter Try.func50, Try.ntmps50
  go_wp2
  go_loopw [1, 5] (fun v i wr => ∃ k : Nat, k ≤ n ∧ i = .int .i64 k ∧ v = .int .i64 ((k0 : Int) + (k : Int) * 2) ∧ NsOw wr b A n (partM k0 N k) ∧ w.grownBy wr (some b)) (fun _ i _ => n - (intOf i).toNat)
  case atStart => exact ⟨0, Nat.zero_le _, rfl, by simp, h.congr (fun i _ => by simp [partM]), gb_refl _ _⟩
  case round =>
    obtain ⟨k, hk, rfl, rfl, hO, hg⟩ := hrel
    clear h
    by_cases hlt : k < n
    · obtain ⟨off, rfl, hbB, hf, hc⟩ := hO (by omega)
      obtain ⟨x0, x1⟩ := hc k hlt
      have f0 := hf (off + k * 2)
      have f1 := hf (off + k * 2 + 1)
      have HO := Lib.hid hO
      have HG := Lib.hid hg
      have hk2 : (0 : Int) ≤ (k : Int) := by omega
      have hk3 : (k : Int) < (n : Int) := by omega
      have MT := Lib.hid (fun W : World => markText_any (k0 + k * 2 + 1) W (by omega))
      have e1 : ((k0 + k * 2 + 1 : Nat) : Int) = (k0 : Int) + (k : Int) * 2 + 1 := by omega
      rw [e1] at MT
      clear hc hf hO hg e1
      go_wp2_with fail
      refine (MT.out _).mono ?_
      rintro e w1 ⟨rfl, hn1⟩
      have HG1 := Lib.hid (gb_below (gb_setCell HG.out (.inl rfl) _) hn1)
      have hs : b < (wr.setCell ⟨b, off + k * 2, none⟩ (.int .i64 ((k0 : Int) + (k : Int) * 2))).heap.size := by simpa [World.setCell] using hbB
      have z1 : w1.cell? ⟨b, off + k * 2 + 1, none⟩ = some (.string (partM k0 N k k).s) := by
        rw [hn1.cell (p := ⟨b, off + k * 2 + 1, none⟩) hs, World.cell?_setCell_other _ _ _ _ (by simp), x1]
      have g1 : w1.frozen? ⟨b, off + k * 2 + 1, none⟩ = false := by
        rw [hn1.frozen (p := ⟨b, off + k * 2 + 1, none⟩) hs, World.frozen?_setCell]; exact f1
      have l1 : b < w1.heap.size := by have := hn1.size; omega
      have ST := Lib.hid (HO.out.put hlt w1 hn1)
      clear hn1 x0 x1 f0 f1 HG HO MT hs
      go_wp2
      go_roundw
      case rel => exact ⟨k + 1, by omega, by go_num, by go_num, ST.out, gb_setCell HG1.out (.inl rfl) _⟩
      case measure => simp [intOf]; omega
    · obtain rfl : k = n := by omega
      go_wp2
      go_ret
      exact ⟨rfl, hO.congr (fun j hj => by simp [partM, hj]), hg⟩
theorem markMoveS_1 (lo hi : Nat) (A : Option Addr) (n c : Nat) (N : Nat → ND) (w : World) (h : ∃ b, (0 < n → lo ≤ b ∧ b < hi) ∧ NsOw w b A n N) (hn : n ≤ 1048576) :
    Calls Try.prog 50 #[.slice A n c, .int .i64 1] w fun e w' => e = .returned (.int .i64 (1 + (n : Int) * 2)) ∧ (∃ b, (0 < n → lo ≤ b ∧ b < hi) ∧ NsOw w' b A n (markN 1)) ∧ Mid lo hi w w' := by
  by_cases h0 : n = 0
  · subst h0
    refine (markMoveS_any A 0 c w.heap.size N 1 w (NsOw.nil _ _ _ _) (by omega) (by omega) hn).mono ?_
    rintro e w' ⟨he, _, hg⟩
    exact ⟨he, ⟨0, fun h => absurd h (by omega), NsOw.nil _ _ _ _⟩, hg.os, hg.tape, hg.output, hg.size, fun k hk _ => hg.block k hk (fun e => by injection e; omega)⟩
  · obtain ⟨b, hb, ho⟩ := h
    have hb' := hb (by omega)
    refine (markMoveS_any A n c b N 1 w ho (by omega) (by omega) hn).mono ?_
    rintro e w' ⟨he, ho', hg⟩
    exact ⟨he, ⟨b, hb, ho'⟩, Mid.of_grown hg hb'.1 hb'.2⟩
/-! Numbers among the arguments. -/
theorem Hold.ow {W : World} {l : List Atom} {lo hi n : Nat} {A : Option Addr} {f : Nat → Int} (h : Hold W l) (hB : hi ≤ W.heap.size) (hr : ∃ b, (0 < n → lo ≤ b ∧ b < hi) ∧ Ow W b A n f) : Hold W (owA lo hi A n f :: l) := h.cons (owA_ok _ _ _ _ _) hB hr
theorem Hold.owrn {W : World} {l : List Atom} {lo hi n : Nat} {A : Option Addr} {f : Nat → Int} (h : Hold W (owA lo hi A n f :: l)) : Rn W W.heap.size A n f := by
  obtain ⟨b, h1, o1⟩ := h.hd
  have h2 := h.hi
  exact fun hn => by obtain ⟨_, _, hb, _⟩ := o1 hn; exact o1.rn hb hn
theorem toInts_ow (A : Option Addr) (n c : Nat) (f : Nat → Int) (w : World) (h : Rn w w.heap.size A n f) (hn : n ≤ 1048576) :
    Calls Try.prog 15 #[.slice A n c] w fun e w' => e = .returned (.slice (some ⟨w.heap.size, 0, none⟩) n n) ∧ (∃ b, (0 < n → w.heap.size ≤ b ∧ b < w'.heap.size) ∧ Ow w' b (some ⟨w.heap.size, 0, none⟩) n f) ∧ Below w.heap.size w w' :=
  (toInts A n c f w.heap.size w h (Nat.le_refl _) hn).mono fun e w' ⟨h1, h2, h3, h4⟩ => ⟨h1, ⟨w.heap.size, fun _ => ⟨Nat.le_refl _, h3⟩, h2⟩, h4⟩
theorem eqInts_self (A E : Option Addr) (n c d : Nat) (f : Nat → Int) (w : World) (h : Rn w w.heap.size A n f) (h2 : Rn w w.heap.size E n f) (hn : n ≤ 1048576) :
    Calls Try.prog 17 #[.slice A n c, .slice E n d] w fun e w' => e = .returned (.bool true) ∧ Below w.heap.size w w' :=
  (eqInts A n c f E n d f w h h2 (by omega) (by omega)).mono fun e w' ⟨h1, q, h2⟩ => ⟨by rw [h1, eqI_self], by rw [h2]; exact dn_below _ _ _⟩
theorem markInts_ow (lo hi : Nat) (A : Option Addr) (n c : Nat) (f : Nat → Int) (k0 : Int) (w : World) (h : ∃ b, (0 < n → lo ≤ b ∧ b < hi) ∧ Ow w b A n f) (hk0 : 0 ≤ k0) (hk1 : k0 ≤ 1000000000) (hn : n ≤ 1048576) :
    Calls Try.prog 20 #[.slice A n c, .int .i64 k0] w fun e w' => e = .returned (.int .i64 (k0 + n)) ∧ Mid lo hi w w' := by
  obtain ⟨b, hb, ho⟩ := h
  refine (markInts A n c b f k0 w ho hk0 (by omega) (by omega)).mono ?_
  rintro e w' ⟨he, _, hg, h0⟩
  refine ⟨he, ?_⟩
  by_cases hn0 : n = 0
  · rw [h0 hn0]; exact Mid.refl _ _ _
  · have := hb (by omega)
    exact Mid.of_grown hg this.1 this.2
theorem IsRow.rn {w : World} {a : Option Addr} {len cap : Nat} {zs : List Int} (h : IsRow .i64 w a len cap zs) : Rn w w.heap.size a len (fun i => zs.getD i 0) ∧ len ≤ cap ∧ cap ≤ 9223372036854775807 := by
  rcases h with ⟨rfl, rfl, rfl, rfl⟩ | ⟨x, rfl, h1, h2, h3, h4, h5⟩
  · exact ⟨fun h => absurd h (by omega), by omega, by omega⟩
  refine ⟨fun hn => ?_, h1, by unfold maxLen at h2; omega⟩
  obtain ⟨b, off, spot⟩ := x
  have hc := h4 0 (by omega)
  have hspot : spot = none := by simpa [Addr.add] using World.cell?_spot hc
  subst hspot
  refine ⟨b, off, rfl, World.block_lt_of_cell? w _ (by simpa [Addr.add] using hc), fun i hi => ?_⟩
  have hci := h4 i (by omega)
  have he : (⟨b, off, none⟩ : Addr).add i = ⟨b, off + i, none⟩ := by unfold Addr.add; split <;> simp_all
  rw [← he]; exact hci
end Go.Proofs.Ytanfhgliilkhjaa
