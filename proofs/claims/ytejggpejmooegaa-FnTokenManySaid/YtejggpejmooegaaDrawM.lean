/-
  Contract of DrawTokenMany.
-/
import Derived.Test.YtejggpejmooegaaAnyInv
import Derived.Deep.RegionHeld3
import Derived.BigCall
namespace Go.Proofs.Ytejggpejmooegaa
open Go.RowKit Go.Deep
set_option linter.unusedVariables false
set_option linter.unusedSimpArgs false

/-- What a draw of a token and a number leaves. -/
def DrawTN (w : World) (e : Ending) (w' : World) : Prop := ∃ (a b o n : Int), e = .returned (.tuple #[.agg #[.int .i64 a, .int .i64 b, .int .i64 o], .int .i64 n]) ∧ (-1 ≤ a ∧ a ≤ 15 ∧ -1 ≤ b ∧ b ≤ 15 ∧ -1 ≤ o ∧ o ≤ 15) ∧ (-1 ≤ n ∧ n ≤ 31) ∧ Below w.heap.size w w'
def drD (j : Nat) : Nat := if j < 6 then 13 + j else 3
/-- The slice's cells. -/
def L3 (w : World) (R F : Nat) (Z : Nat) : Prop := Bx w Z [.int .i64 (-1), .int .i64 30, .int .i64 31] ∧ F < Z ∧ R < Z
/-- What is known behind the operation j. -/
def DrF (R F : Nat) (a b o : Int) (j : Nat) (v : Value) (w : World) : Prop :=
  match j with
  | 0 => v = .agg #[.int .i64 a, .int .i64 b, .int .i64 o]
  | 1 => ∃ Z, v = .slice (some ⟨Z, 0, none⟩) 3 3 ∧ L3 w R F Z
  | 2 => v = .pointer (some ⟨R, 0, none⟩)
  | 3 => ∃ t : Nat, t < 3 ∧ v = .int .i64 t
  | 4 => ∃ Z t, v = .pointer (some ⟨Z, t, none⟩) ∧ t < 3 ∧ L3 w R F Z
  | 5 => ∃ x : Int, v = .int .i64 x ∧ -1 ≤ x ∧ x ≤ 31
  | 7 => ∃ x : Int, v = .int .i64 x ∧ -1 ≤ x ∧ x ≤ 31
  | _ => True
theorem DrF.keep {R F j : Nat} {a b o : Int} {v : Value} {w w' : World} (h : DrF R F a b o j v w) (hj : j < 8) (hG : ∀ Z, F < Z → R < Z → Z < w.heap.size → w'.heap[Z]? = w.heap[Z]?) : DrF R F a b o j v w' := by
  have hj' : j = 0 ∨ j = 1 ∨ j = 2 ∨ j = 3 ∨ j = 4 ∨ j = 5 ∨ j = 6 ∨ j = 7 := by omega
  rcases hj' with rfl | rfl | rfl | rfl | rfl | rfl | rfl | rfl
  · exact h
  · obtain ⟨Z, e, hB, h1, h2⟩ := h; exact ⟨Z, e, hB.of (hG Z h1 h2 hB.lt), h1, h2⟩
  · exact h
  · exact h
  · obtain ⟨Z, t, e, ht, hB, h1, h2⟩ := h; exact ⟨Z, t, e, ht, hB.of (hG Z h1 h2 hB.lt), h1, h2⟩
  · exact h
  · exact h
  · exact h
/-- The invariant: the reader R, the token's box T, the result's box F. -/
def DrI (B R T F : Nat) (a b o : Int) (w0 : World) (L : Array Bool) (ac : Act) (w : World) : Prop :=
  (ac.tmps.size = 22 ∧ ac.defers = [] ∧ ac.eval (.tmp 2) = .pointer (some ⟨F, 0, none⟩) ∧ ac.eval (.tmp 4) = .pointer (some ⟨R, 0, none⟩) ∧ ac.eval (.tmp 5) = .pointer (some ⟨T, 0, none⟩)) ∧
  (L.getD 3 false = false → ∃ q, Rd B w R q ∧ q ≤ 50000) ∧ Below w0.heap.size w0 w ∧ Bx w T [.int .i64 a, .int .i64 b, .int .i64 o] ∧ (∃ x y z : Value, Bx w F [x, y, z] ∧ (L.getD 6 false = true → x = .int .i64 a ∧ y = .int .i64 b ∧ z = .int .i64 o)) ∧ ∀ j, j < 8 → j ≠ 6 → L.getD j false = true → DrF R F a b o j (ac.eval (.tmp (drD j))) w
theorem drD_lt {i : Nat} (h : i < 8) : drD i < 22 ∧ drD i ≠ 2 ∧ drD i ≠ 4 ∧ drD i ≠ 5 := by unfold drD; split <;> omega
theorem DrI.step {B R T F : Nat} {a b o : Int} {w0 : World} {L : Array Bool} {ac : Act} {w w' : World} {i : Nat} {v : Value} (h : DrI B R T F a b o w0 L ac w) (hi : i < 8) (hi6 : i ≠ 6)
    (hL : L.size = 8) (hR : i ≠ 3 → L.getD 3 false = false → ∃ q, Rd B w' R q ∧ q ≤ 50000) (hb : Below w0.heap.size w0 w') (hk : ∀ Z, Z ≠ R → Z < w.heap.size → w'.heap[Z]? = w.heap[Z]?) (hTR : T ≠ R) (hFR : F ≠ R)
    (hv : DrF R F a b o i v w') : DrI B R T F a b o w0 (L.setIfInBounds i true) (ac.put (some (drD i)) v) w' := by
  obtain ⟨⟨h1, h2, h3, h4, h5⟩, _, _, hT, ⟨x, y, z, hF, hx⟩, h8⟩ := h
  obtain ⟨b1, b2, b3, b4⟩ := drD_lt hi
  refine ⟨⟨by rw [put_size]; exact h1, by rw [put_defers]; exact h2, by rw [put_ne b2]; exact h3, by rw [put_ne b3]; exact h4, by rw [put_ne b4]; exact h5⟩, fun hl => ?_, hb, hT.of (hk T hTR hT.lt), ⟨x, y, z, hF.of (hk F hFR hF.lt), fun hl => hx (by rw [getD_set_ne false hi6] at hl; exact hl)⟩, fun j hj hj6 hl => ?_⟩
  · by_cases e : i = 3
    · subst e; rw [getD_same (by omega)] at hl; cases hl
    · rw [getD_set_ne false e] at hl; exact hR e hl
  by_cases e : j = i
  · subst e
    rw [put_same (by omega)]; exact hv
  · have hne : drD i ≠ drD j := by unfold drD; split <;> split <;> omega
    rw [put_ne hne]
    rw [getD_set_ne false (Ne.symm e)] at hl
    exact (h8 j hj hj6 hl).keep hj fun Z _ hZR hZ => hk Z (by omega) hZ
/-- The result's box is written. -/
theorem DrI.store {B R T F : Nat} {a b o : Int} {w0 : World} {L : Array Bool} {ac : Act} {w : World} (h : DrI B R T F a b o w0 L ac w) (h3 : L.getD 3 false = true) (hTF : T ≠ F) (hw : w0.heap.size ≤ F) :
    DrI B R T F a b o w0 (L.setIfInBounds 6 true) (ac.put none undef) (((w.setCell ⟨F, 0, none⟩ (.int .i64 a)).setCell ⟨F, 1, none⟩ (.int .i64 b)).setCell ⟨F, 2, none⟩ (.int .i64 o)) := by
  obtain ⟨h1, _, hb, hT, ⟨x, y, z, hF, hx⟩, h8⟩ := h
  refine ⟨h1, fun hl => ?_, bl_set3 hb hw _ _ _, hT.other3 hTF _ _ _, ⟨_, _, _, hF.set3, fun _ => ⟨rfl, rfl, rfl⟩⟩, fun j hj hj6 hl => ?_⟩
  · rw [getD_set_ne false (by omega), h3] at hl; cases hl
  · rw [getD_set_ne false (Ne.symm hj6)] at hl
    exact (h8 j hj hj6 hl).keep hj fun Z hZ _ _ => by
      rw [blk_setCell_other _ ⟨F, 2, none⟩ _ _ (show Z ≠ F by omega), blk_setCell_other _ ⟨F, 1, none⟩ _ _ (show Z ≠ F by omega), blk_setCell_other _ ⟨F, 0, none⟩ _ _ (show Z ≠ F by omega)]
set_option maxRecDepth 100000 in
set_option maxHeartbeats 16000000 in
theorem d_DrawTokenMany (A : Option Addr) (len cap : Nat) (w : World) (hA : BytesAt w.heap.size w A len) (hl : len ≤ 1048576) (hc : len ≤ cap) (hm : cap ≤ 9223372036854775807) :
    Calls Try.prog 42 #[.slice A len cap] w (DrawTN w) := by
  obtain ⟨W, hW⟩ : ∃ W, W = w.alloc (.cells #[.int .i64 0, .int .i64 0, .int .i64 0] 27) := ⟨_, rfl⟩
  have hX : Bx W w.heap.size [.int .i64 0, .int .i64 0, .int .i64 0] := by rw [hW]; exact Bx.new w _ _
  have hA2 : BytesAt W.heap.size W A len := (hA.keep (w' := W) (fun k hk => by rw [hW]; exact Go.Deep.blk_alloc_lt _ _ _ hk)).up (by rw [hW]; simp)
  have hsz : W.heap.size = w.heap.size + 1 := by rw [hW]; simp
  have hbW : Below w.heap.size w W := by rw [hW]; go_grown
  go_enter Try.func42, Try.ntmps42
  go_wp2_with fail
  rw [← hW]
  refine (open_any A len cap W hA2 hl hc hm).mono ?_
  rintro e w1 ⟨rfl, hR, hb⟩
  have hX := hX.call hb
  have hz0 : w.heap.size + 1 ≤ w1.heap.size := by have := hb.size; omega
  have hWl : w.heap.size ≤ W.heap.size := by omega
  have hWr : w.heap.size ≠ W.heap.size := by omega
  have hWs : w.heap.size < W.heap.size := by omega
  have hb1 : Below w.heap.size w w1 := bl hbW (by omega) hb
  clear hb hbW hW hA2 hA hsz
  go_wp2_with fail
  refine (token_any _ _ 0 w1 hR (by omega)).mono ?_
  rintro e w2 ⟨a, b, o, q, rfl, hab, hq, hR, hg⟩
  have hX := hX.grown hg (by simpa using hWr)
  have hb2 : Below w.heap.size w w2 := gb_bl hb1 (by omega) (by omega) hg
  have hz2 := hg.size
  clear hg hb1
  have hltR := hR.lt
  have hT := Bx.new w2 [.int .i64 a, .int .i64 b, .int .i64 o] 27
  have hX := hX.alloc (.cells #[.int .i64 a, .int .i64 b, .int .i64 o] 27)
  have hR := hR.alloc (.cells #[.int .i64 a, .int .i64 b, .int .i64 o] 27)
  have hb2 := hb2.alloc (by omega) (.cells #[.int .i64 a, .int .i64 b, .int .i64 o] 27)
  go_wp2_with fail
  refine (pick_any _ _ q 16 _ hR (by omega) (by omega) (by omega)).mono ?_
  rintro e w3 ⟨v, rfl, hv0, hv1, hR, hg⟩
  have hX := hX.grown hg (by simpa using hWr)
  have hT := hT.grown hg (by simp; omega)
  have hb3 : Below w.heap.size w w3 := gb_bl hb2 (by simp; omega) (by omega) hg
  clear hg hb2
  have hlX := hX.lt
  have hlT := hT.lt
  have hlR := hR.lt
  obtain ⟨⟨c0, c1, c2⟩, _⟩ := hT.three
  obtain ⟨⟨d0, d1, d2⟩, f0, f1, f2⟩ := hX.three
  have hne1 : w2.heap.size ≠ w.heap.size := by omega
  have hne2 : w.heap.size ≠ w2.heap.size := by omega
  have KX := Lib.hid hX
  have KT := Lib.hid hT
  have KR := Lib.hid hR
  have KB := Lib.hid hb3
  clear hX hT hR hb3
  by_cases hv : v = 0
  · have hd : (v == 0) = true := beq_iff_eq.2 hv
    clear hv c0 c1 c2 d0 d1 d2 f0 f1 f2
    go_wp2_with fail
    refine wp_region_any (by kernel_rfl) ?_
    refine wpAny_inv (DrI W.heap.size W.heap.size w2.heap.size w.heap.size a b o w) ?done ?step _ _ _ _ (by simp) (fun j o _ hl => (repl_no hl).elim) (by simp [openN]) ?init
    case init => exact ⟨⟨rfl, rfl, rfl, rfl, rfl⟩, fun _ => ⟨q + 1, KR.out.drew, by omega⟩, ⟨KB.out.os, KB.out.tape, KB.out.output, KB.out.size, KB.out.block⟩, KT.out, ⟨_, _, _, KX.out, fun hl => (repl_no hl).elim⟩, fun j hj _ hl => (repl_no hl).elim⟩
    case done =>
      intro L ac V hs hsh hr hI
      have hall := all_listed hs hr (depsOk_spec (by kernel_rfl))
      obtain ⟨x, e3, hx1, hx2⟩ : ∃ x : Int, ac.eval (.tmp 3) = .int .i64 x ∧ -1 ≤ x ∧ x ≤ 31 := hI.2.2.2.2.2 7 (by omega) (by omega) (hall 7 (by simp))
      obtain ⟨y1, y2, y3, hF, hy⟩ := hI.2.2.2.2.1
      obtain ⟨rfl, rfl, rfl⟩ := hy (hall 6 (by simp))
      have e2 := hI.1.2.2.1
      have hdf := hI.1.2.1
      have HB2 := Lib.hid hI.2.2.1
      obtain ⟨⟨d0, d1, d2⟩, f0, f1, f2⟩ := hF.three
      clear hall hr hsh hs hI hF hy
      obtain ⟨tm, df⟩ := ac
      simp only at hdf
      subst hdf
      have e2 := ev e2
      have e3 := ev e3
      simp only at e2 e3
      go_wp2
      refine bodyPost_ret (by simp [results, Try.results42, go_sem, e2, e3, d0, d1, d2]; rfl) rfl ?_
      exact ⟨a, b, o, x, rfl, hab, ⟨hx1, hx2⟩, HB2.out⟩
    case step =>
      intro L ac V i hs hsh hi hI
      have hs8 : L.size = 8 := by simpa using hs
      obtain ⟨h0, op, ho, hall⟩ := mem_ready.1 hi
      have hi8 : i < 8 := by
        rcases Nat.lt_or_ge i 8 with h | h
        · exact h
        · rw [Array.getElem?_eq_none (by simpa using h)] at ho; cases ho
      have h2' := ev hI.1.2.2.1
      have h4' := hI.1.2.2.2.1
      have h5' := ev hI.1.2.2.2.2
      have hF := hI.2.2.2.2.2
      have hR' := hI.2.1
      have hB' := hI.2.2.1
      have hT' := hI.2.2.2.1
      have hTR : w2.heap.size ≠ W.heap.size := by omega
      have hFR : w.heap.size ≠ W.heap.size := by omega
      have hlT' := hT'.lt
      have same : ∀ Z, Z ≠ W.heap.size → Z < V.heap.size → V.heap[Z]? = V.heap[Z]? := fun _ _ _ => rfl
      have hi' : i = 0 ∨ i = 1 ∨ i = 2 ∨ i = 3 ∨ i = 4 ∨ i = 5 ∨ i = 6 ∨ i = 7 := by omega
      rcases hi' with rfl | rfl | rfl | rfl | rfl | rfl | rfl | rfl
      all_goals
        simp only [List.getElem?_toArray, List.getElem?_cons_zero, List.getElem?_cons_succ, Option.some.injEq] at ho
        subst ho
      · obtain ⟨⟨p0, p1, p2⟩, _⟩ := hT'.three
        refine wpOp_value rfl rfl (w' := V) (v := .agg #[.int .i64 a, .int .i64 b, .int .i64 o]) ?_ (hI.step (i := 0) (by omega) (by omega) hs8 (fun _ => hR') hB' same hTR hFR rfl)
        clear hF hall
        go_simp
      · have bx := Bx.new V [.int .i64 (-1), .int .i64 30, .int .i64 31] 3
        refine wpOp_value rfl rfl (w' := V.alloc (.cells #[.int .i64 (-1), .int .i64 30, .int .i64 31] 3)) (v := .slice (some ⟨V.heap.size, 0, none⟩) 3 3) ?_ (hI.step (i := 1) (by omega) (by omega) hs8 (fun _ h => by obtain ⟨q', hq, hq'⟩ := hR' h; exact ⟨q', hq.alloc _, hq'⟩) (hB'.alloc hB'.size _) (fun Z _ hZ => blk_alloc_lt _ _ _ hZ) hTR hFR ⟨_, rfl, bx, by omega, by omega⟩)
        clear hF hall bx
        go_simp
      · refine wpOp_value rfl rfl (w' := V) (v := .pointer (some ⟨W.heap.size, 0, none⟩)) ?_ (hI.step (i := 2) (by omega) (by omega) hs8 (fun _ => hR') hB' same hTR hFR rfl)
        simp [execOp, h4']
      · have f4 : ac.eval (.tmp 15) = .pointer (some ⟨W.heap.size, 0, none⟩) := hF 2 (by omega) (by omega) (hall ⟨2, .data⟩ (by simp) rfl)
        obtain ⟨q', hRq, hq'⟩ := hR' (getD_un h0)
        refine wpOp_enter rfl rfl (f := 70) (args := #[.pointer (some ⟨W.heap.size, 0, none⟩), .int .i64 3]) ?_ (pick_any W.heap.size W.heap.size q' 3 V hRq (by omega) (by omega) (by omega)) ?_
        · have f4 := ev f4
          clear hF hall
          go_simp
        · rintro e w' ⟨t, rfl, ht0, ht3, hR3, hg3⟩
          obtain ⟨t, rfl⟩ := Int.eq_ofNat_of_zero_le ht0
          exact ⟨_, rfl, hI.step (i := 3) (by omega) (by omega) hs8 (fun h => absurd rfl h) (gb_bl hB' hB'.size hWl hg3) (fun Z hZR hZ => hg3.block Z hZ (fun e => hZR (by injection e))) hTR hFR ⟨t, by omega, rfl⟩⟩
      · obtain ⟨Z, f3, hL3⟩ : ∃ Z, ac.eval (.tmp 14) = .slice (some ⟨Z, 0, none⟩) 3 3 ∧ L3 V W.heap.size w.heap.size Z := hF 1 (by omega) (by omega) (hall ⟨1, .data⟩ (by simp) rfl)
        obtain ⟨t, ht, f5⟩ : ∃ t : Nat, t < 3 ∧ ac.eval (.tmp 16) = .int .i64 t := hF 3 (by omega) (by omega) (hall ⟨3, .data⟩ (by simp) rfl)
        have t0 : (0 : Int) ≤ (t : Int) := by omega
        have t3 : (t : Int) < 3 := by omega
        refine wpOp_value rfl rfl (w' := V) (v := .pointer (some ⟨Z, t, none⟩)) ?_ (hI.step (i := 4) (by omega) (by omega) hs8 (fun _ => hR') hB' same hTR hFR ⟨Z, t, rfl, ht, hL3⟩)
        have f3 := ev f3
        have f5 := ev f5
        clear hF hall hL3
        go_simp
      · obtain ⟨Z, t, f6, ht, hL3⟩ : ∃ Z t, ac.eval (.tmp 17) = .pointer (some ⟨Z, t, none⟩) ∧ t < 3 ∧ L3 V W.heap.size w.heap.size Z := hF 4 (by omega) (by omega) (hall ⟨4, .data⟩ (by simp) rfl)
        obtain ⟨x, hx, hx1, hx2⟩ : ∃ x : Int, V.cell? ⟨Z, t, none⟩ = some (.int .i64 x) ∧ -1 ≤ x ∧ x ≤ 31 := by
          have ht3 : t = 0 ∨ t = 1 ∨ t = 2 := by omega
          rcases ht3 with rfl | rfl | rfl
          · exact ⟨-1, hL3.1.cell (i := 0) (by simp), by omega, by omega⟩
          · exact ⟨30, hL3.1.cell (i := 1) (by simp), by omega, by omega⟩
          · exact ⟨31, hL3.1.cell (i := 2) (by simp), by omega, by omega⟩
        refine wpOp_value rfl rfl (w' := V) (v := .int .i64 x) ?_ (hI.step (i := 5) (by omega) (by omega) hs8 (fun _ => hR') hB' same hTR hFR ⟨x, rfl, hx1, hx2⟩)
        have f6 := ev f6
        clear hF hall hL3
        go_simp
      · have f0 : ac.eval (.tmp 13) = .agg #[.int .i64 a, .int .i64 b, .int .i64 o] := hF 0 (by omega) (by omega) (hall ⟨0, .data⟩ (by simp) rfl)
        have f3 : L.getD 3 false = true := hall ⟨3, .chain⟩ (by simp) rfl
        have hst := hI.store f3 hne1 (Nat.le_refl _)
        have f0 := ev f0
        obtain ⟨x, y, z, hFx, _⟩ := hI.2.2.2.2.1
        obtain ⟨⟨p0, p1, p2⟩, pf0, pf1, pf2⟩ := hFx.three
        have hlF := hFx.lt
        refine wpOp_skip rfl rfl (w' := ((V.setCell ⟨w.heap.size, 0, none⟩ (.int .i64 a)).setCell ⟨w.heap.size, 1, none⟩ (.int .i64 b)).setCell ⟨w.heap.size, 2, none⟩ (.int .i64 o)) ?_ hst
        clear hF hall hst
        go_simp
      · obtain ⟨x, f, hx1, hx2⟩ : ∃ x : Int, ac.eval (.tmp 18) = .int .i64 x ∧ -1 ≤ x ∧ x ≤ 31 := hF 5 (by omega) (by omega) (hall ⟨5, .data⟩ (by simp) rfl)
        have f := ev f
        refine wpOp_value rfl rfl (w' := V) (v := .int .i64 x) ?_ (hI.step (i := 7) (by omega) (by omega) hs8 (fun _ => hR') hB' same hTR hFR ⟨x, rfl, hx1, hx2⟩)
        clear hF hall
        go_simp
  · have hd : (v == 0) = false := beq_eq_false_iff_ne.2 hv
    clear hv
    go_wp2_with fail
    go_region_held3 (fun V => V.cell? ⟨w2.heap.size, 0, none⟩ = some (.int .i64 a) ∧ V.cell? ⟨w2.heap.size, 1, none⟩ = some (.int .i64 b) ∧ V.cell? ⟨w2.heap.size, 2, none⟩ = some (.int .i64 o)) (go_keep)
      (first | (go_at_call 70; refine (pick_any _ _ (q + 1) 7 _ KR.out.drew (by omega) (by omega) (by omega)).mono ?_; rintro e w5 ⟨n, rfl, hn0, hn1, hR5, hg⟩; have hg := gb_undrew hg; have hl6 := hg.size; have X5 := KX.out.grown hg (by simpa using hWr); have T5 := KT.out.grown hg (by simp; omega); obtain ⟨⟨g0, g1, g2⟩, _⟩ := T5.three; obtain ⟨⟨e0, e1, e2⟩, k0, k1, k2⟩ := X5.three))
    all_goals
      have HF : Hid (Below w.heap.size w w5) := gb_bl KB.out (by omega) (by omega) hg
      clear hR5 hg X5 T5
      go_wp2
      refine bodyPost_ret (by simp [results, Try.results42, go_sem, *]; rfl) rfl ?_
      exact ⟨a, b, o, n, rfl, by omega, by omega, bl_set3 HF.out (Nat.le_refl _) _ _ _⟩
end Go.Proofs.Ytejggpejmooegaa
