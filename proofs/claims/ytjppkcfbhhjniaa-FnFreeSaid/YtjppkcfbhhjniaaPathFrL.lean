/-
  The draw of FnFree and its walk.
-/
import Derived.Test.YtjppkcfbhhjniaaPathFrR
import Derived.Test.YtjppkcfbhhjniaaPathFd
import Derived.BigCall
namespace Go.Proofs.Ytjppkcfbhhjniaa
open Go.RowKit Go.Deep
set_option linter.unusedVariables false
set_option linter.unusedSimpArgs false

theorem results_tmp5 {fn : Func} {t u v x y : Tmp} (h : fn.results = #[.tmp t, .tmp u, .tmp v, .tmp x, .tmp y]) (tmps : Array Value) (P : Program) (w : World) :
    (results fn tmps).run P w = .ok (.tuple #[tmps.getD t undef, tmps.getD u undef, tmps.getD v undef, tmps.getD x undef, tmps.getD y undef]) w := by
  simp [results, h]
theorem gcell {W w' : World} {R : Nat} (h : W.grownBy w' (some R)) : ∀ b o, b < W.heap.size → R < b → w'.cell? ⟨b, o, none⟩ = W.cell? ⟨b, o, none⟩ := fun b o hb hR =>
  World.cell?_of_block (w := W) (a := ⟨b, o, none⟩) (h.block b hb (fun e => by injection e; omega))
theorem lit3 (j : Nat) (hj : j < 3) (x y z : Int) : ∃ v : Int, ∀ (X : World) (b : Nat) (T : TypeId), X.heap.size = b → (X.alloc (.cells #[.int .i64 x, .int .i64 y, .int .i64 z] T)).cell? ⟨b, j, none⟩ = some (.int .i64 v) := by
  have key := fun (X : World) (T : TypeId) => Bx.new X [.int .i64 x, .int .i64 y, .int .i64 z] T
  rcases (show j = 0 ∨ j = 1 ∨ j = 2 by omega) with rfl | rfl | rfl
  · exact ⟨x, fun X b T e => by subst e; exact (key X T).cell (i := 0) (by simp)⟩
  · exact ⟨y, fun X b T e => by subst e; exact (key X T).cell (i := 1) (by simp)⟩
  · exact ⟨z, fun X b T e => by subst e; exact (key X T).cell (i := 2) (by simp)⟩
theorem lit4 (j : Nat) (hj : j < 4) (x y z u : Int) : ∃ v : Int, ∀ (X : World) (b : Nat) (T : TypeId), X.heap.size = b → (X.alloc (.cells #[.int .i64 x, .int .i64 y, .int .i64 z, .int .i64 u] T)).cell? ⟨b, j, none⟩ = some (.int .i64 v) := by
  have key := fun (X : World) (T : TypeId) => Bx.new X [.int .i64 x, .int .i64 y, .int .i64 z, .int .i64 u] T
  rcases (show j = 0 ∨ j = 1 ∨ j = 2 ∨ j = 3 by omega) with rfl | rfl | rfl | rfl
  · exact ⟨x, fun X b T e => by subst e; exact (key X T).cell (i := 0) (by simp)⟩
  · exact ⟨y, fun X b T e => by subst e; exact (key X T).cell (i := 1) (by simp)⟩
  · exact ⟨z, fun X b T e => by subst e; exact (key X T).cell (i := 2) (by simp)⟩
  · exact ⟨u, fun X b T e => by subst e; exact (key X T).cell (i := 3) (by simp)⟩
/-- What a draw of paths, a section, a time and a run leaves. -/
def FreeDr (w : World) (e : Ending) (w' : World) : Prop := ∃ (n g m c : Nat) (D : Nat → PD) (k frm run : Int), e = .returned (.tuple #[.int .i64 (n : Int), .slice (some ⟨g, 0, none⟩) m c, .int .i64 k, .int .i64 frm, .int .i64 run]) ∧ ListDr w n g m c D w'
set_option maxRecDepth 100000 in
set_option maxHeartbeats 16000000 in
theorem d_DrawPathsFree (A : Option Addr) (len cap : Nat) (w : World) (hA : BytesAt w.heap.size w A len) (hl : len ≤ 1048576) (hc : len ≤ cap) (hm : cap ≤ 9223372036854775807) :
    Calls Try.prog 38 #[.slice A len cap] w (FreeDr w) := by
  go_enter Try.func38, Try.ntmps38
  go_wp2_with fail
  refine (open_any A len cap w hA hl hc hm).mono ?_
  rintro e w1 ⟨rfl, hR, hb⟩
  go_wp2_with fail
  refine (paths_any _ _ 0 w1 hR (by omega)).mono ?_
  rintro e w2 ⟨n, g, k, c, D, q, rfl, hn, hk, hD, hd, hR2, hq, hg⟩
  have hRl := hR.lt
  have HP := Lib.hid hd
  have HG := Lib.hid hg
  have HB := Lib.hid hb
  have HD := Lib.hid hD
  have hs := hg.size
  clear hd hg hR hD hb
  go_wp2_with fail
  refine (at_any _ _ q n _ hR2 (by omega) hn).mono ?_
  rintro e w3 ⟨kk, q3, rfl, hR3, hq3, hg3⟩
  have hs3 := hg3.size
  clear hR2
  go_wp2_with fail
  refine (pick_any _ _ q3 16 w3 hR3 (by omega) (by omega) (by omega)).mono ?_
  rintro e w4 ⟨v, rfl, hva, hvb, hR4, hg4⟩
  have hs4 := hg4.size
  have hg4 := gb_trans hg3 hg4
  clear hR3 hg3
  by_cases h0 : v = 0
  · subst h0
    have HR := Lib.hid hR4
    have HG4 := Lib.hid hg4
    have FIN : Hid (∀ W, w2.grownBy W (some w.heap.size) → ListDr w n g k c D W) := fun W hW => listDr_of HB.out hn (show k ≤ 10 by omega) HD.out (HP.out.grown (by omega) hW) (Nat.le_refl _) (gb_trans HG.out hW)
    clear hR4 hg4 HP HG HB HD
    have lw : w.heap.size < w4.heap.size := by omega
    go_wp2_with fail
    refine wp_region_any (by kernel_rfl) ?_
    refine wpAny_inv (FrI w.heap.size w.heap.size n g k c (q3 + 3) kk w2) ?done ?step _ _ _ _ (by simp) (fun j o _ hl => (repl_no hl).elim) (by simp [openN]) ?init
    case init => exact ⟨⟨rfl, rfl, rfl, rfl, rfl, rfl⟩, ⟨q3 + 1, HR.out.drew, by unfold lf; split <;> split <;> omega⟩, gb_drew HG4.out, lw, fun j hj hl => (repl_no hl).elim⟩
    case done =>
      intro L a W hs hsh hr hI
      have hall := all_listed hs hr (depsOk_spec (by kernel_rfl))
      have e13 : a.tmps.getD 2 undef = .int .i64 n := hI.2.2.2.2 13 (by omega) (hall 13 (by simp))
      have e14 : a.tmps.getD 3 undef = .slice (some ⟨g, 0, none⟩) k c := hI.2.2.2.2 14 (by omega) (hall 14 (by simp))
      have e15 : a.tmps.getD 4 undef = .int .i64 kk := hI.2.2.2.2 15 (by omega) (hall 15 (by simp))
      obtain ⟨x, e16⟩ : ∃ x : Int, a.tmps.getD 5 undef = .int .i64 x := hI.2.2.2.2 16 (by omega) (hall 16 (by simp))
      obtain ⟨y, e17⟩ : ∃ y : Int, a.tmps.getD 6 undef = .int .i64 y := hI.2.2.2.2 17 (by omega) (hall 17 (by simp))
      have HP : Hid (FreeDr w (.returned (.tuple #[.int .i64 n, .slice (some ⟨g, 0, none⟩) k c, .int .i64 kk, .int .i64 x, .int .i64 y])) W) := ⟨n, g, k, c, D, kk, x, y, rfl, FIN.out _ hI.2.2.1⟩
      have hdf := hI.1.2.1
      clear hall hr hsh hs hI HR HG4 FIN
      obtain ⟨tm, df⟩ := a
      simp only at hdf
      subst hdf
      go_wp2
      ((try simp only [Exit.inBlock, Exit.then]); refine bodyPost_ret (results_tmp5 rfl _ _ _) rfl ?_)
      rw [e13, e14, e15, e16, e17]
      exact HP.out
    case step =>
      intro L a W i hs hsh hi hI
      have hs18 : L.size = 18 := by simpa using hs
      obtain ⟨h0, o, ho, hall⟩ := mem_ready.1 hi
      have hi18 : i < 18 := by
        rcases Nat.lt_or_ge i 18 with h | h
        · exact h
        · rw [Array.getElem?_eq_none (by simpa using h)] at ho; cases ho
      have hu := getD_un h0
      have h7' := hI.1.2.2.1
      have h8' := hI.1.2.2.2.1
      have h9' := hI.1.2.2.2.2.1
      have h10' := hI.1.2.2.2.2.2
      have hF := hI.2.2.2.2
      have hlo := hI.2.2.2.1
      have hi' : i = 0 ∨ i = 1 ∨ i = 2 ∨ i = 3 ∨ i = 4 ∨ i = 5 ∨ i = 6 ∨ i = 7 ∨ i = 8 ∨ i = 9 ∨ i = 10 ∨ i = 11 ∨ i = 12 ∨ i = 13 ∨ i = 14 ∨ i = 15 ∨ i = 16 ∨ i = 17 := by omega
      rcases hi' with rfl | rfl | rfl | rfl | rfl | rfl | rfl | rfl | rfl | rfl | rfl | rfl | rfl | rfl | rfl | rfl | rfl | rfl
      all_goals
        simp only [List.getElem?_toArray, List.getElem?_cons_zero, List.getElem?_cons_succ, Option.some.injEq] at ho
        subst ho
      · refine wpOp_value rfl rfl (w' := W) (v := .int .i64 n) ?_ (hI.same (i := 0) (by omega) (by omega) (by omega) rfl)
        simp [execOp, h8']
      · refine wpOp_value rfl rfl (w' := W) (v := .slice (some ⟨g, 0, none⟩) k c) ?_ (hI.same (i := 1) (by omega) (by omega) (by omega) rfl)
        simp [execOp, h9']
      · refine wpOp_value rfl rfl (w' := W) (v := .int .i64 kk) ?_ (hI.same (i := 2) (by omega) (by omega) (by omega) rfl)
        simp [execOp, h10']
      · have bx := Bx.new W [.int .i64 (-1), .int .i64 2000, .int .i64 1950] 3
        refine wpOp_value rfl rfl (w' := W.alloc (.cells #[.int .i64 (-1), .int .i64 2000, .int .i64 1950] 3)) (v := .slice (some ⟨W.heap.size, 0, none⟩) 3 3) ?_ (hI.made (i := 3) _ (by omega) (by omega) (by omega) ⟨_, rfl, fun t ht => ?_⟩)
        · clear hF hall bx
          go_simp
        · have ht3 : t = 0 ∨ t = 1 ∨ t = 2 := by omega
          rcases ht3 with rfl | rfl | rfl
          · exact IC.new hlo (bx.cell (i := 0) (by simp))
          · exact IC.new hlo (bx.cell (i := 1) (by simp))
          · exact IC.new hlo (bx.cell (i := 2) (by simp))
      · refine wpOp_value rfl rfl (w' := W) (v := .pointer (some ⟨w.heap.size, 0, none⟩)) ?_ (hI.same (i := 4) (by omega) (by omega) (by omega) rfl)
        simp [execOp, h7']
      · have f4 : a.eval (.tmp 28) = .pointer (some ⟨w.heap.size, 0, none⟩) := hF 4 (by omega) (hall ⟨4, .data⟩ (by simp) rfl)
        obtain ⟨q', hR', hq'⟩ := hI.2.1
        rw [lf_un hu] at hq'
        refine wpOp_enter rfl rfl (f := 61) (args := #[.pointer (some ⟨w.heap.size, 0, none⟩), .int .i64 3]) ?_ (pick_any w.heap.size w.heap.size q' 3 W hR' (by omega) (by omega) (by omega)) ?_
        · have f4 := ev f4
          clear hF hall
          go_simp
        · rintro e w' ⟨v, rfl, hv0, hv3, hR3, hg3⟩
          obtain ⟨t, rfl⟩ := Int.eq_ofNat_of_zero_le hv0
          exact ⟨_, rfl, hI.step (i := 5) (by omega) (GBR.grown hg3) ⟨q' + 1, hR3, by (first | (rw [lf_same (by omega), lf_ne (by omega)]; omega) | (rw [lf_ne (by omega), lf_same (by omega)]; omega))⟩ (gb_trans hI.2.2.1 hg3) ⟨t, by omega, rfl⟩⟩
      · obtain ⟨Z, f3, hc3⟩ : ∃ Z, a.eval (.tmp 27) = .slice (some ⟨Z, 0, none⟩) 3 3 ∧ ∀ t, t < 3 → IC W w.heap.size Z t := hF 3 (by omega) (hall ⟨3, .data⟩ (by simp) rfl)
        obtain ⟨t, ht, f5⟩ : ∃ t : Nat, t < 3 ∧ a.eval (.tmp 29) = .int .i64 t := hF 5 (by omega) (hall ⟨5, .data⟩ (by simp) rfl)
        have t0 : (0 : Int) ≤ (t : Int) := by omega
        have t3 : (t : Int) < 3 := by omega
        refine wpOp_value rfl rfl (w' := W) (v := .pointer (some ⟨Z, t, none⟩)) ?_ (hI.same (i := 6) (by omega) (by omega) (by omega) ⟨Z, t, rfl, hc3 t ht⟩)
        have f3 := ev f3
        have f5 := ev f5
        clear hF hall hc3
        go_simp
      · obtain ⟨Z, t, f6, hz, x, hc⟩ : ∃ Z t, a.eval (.tmp 30) = .pointer (some ⟨Z, t, none⟩) ∧ IC W w.heap.size Z t := hF 6 (by omega) (hall ⟨6, .data⟩ (by simp) rfl)
        refine wpOp_value rfl rfl (w' := W) (v := .int .i64 x) ?_ (hI.same (i := 7) (by omega) (by omega) (by omega) ⟨x, rfl⟩)
        have f6 := ev f6
        clear hF hall
        go_simp
      · have bx := Bx.new W [.int .i64 0, .int .i64 101, .int .i64 100, .int .i64 50] 3
        refine wpOp_value rfl rfl (w' := W.alloc (.cells #[.int .i64 0, .int .i64 101, .int .i64 100, .int .i64 50] 3)) (v := .slice (some ⟨W.heap.size, 0, none⟩) 4 4) ?_ (hI.made (i := 8) _ (by omega) (by omega) (by omega) ⟨_, rfl, fun t ht => ?_⟩)
        · clear hF hall bx
          go_simp
        · have ht3 : t = 0 ∨ t = 1 ∨ t = 2 ∨ t = 3 := by omega
          rcases ht3 with rfl | rfl | rfl | rfl
          · exact IC.new hlo (bx.cell (i := 0) (by simp))
          · exact IC.new hlo (bx.cell (i := 1) (by simp))
          · exact IC.new hlo (bx.cell (i := 2) (by simp))
          · exact IC.new hlo (bx.cell (i := 3) (by simp))
      · refine wpOp_value rfl rfl (w' := W) (v := .pointer (some ⟨w.heap.size, 0, none⟩)) ?_ (hI.same (i := 9) (by omega) (by omega) (by omega) rfl)
        simp [execOp, h7']
      · have f4 : a.eval (.tmp 33) = .pointer (some ⟨w.heap.size, 0, none⟩) := hF 9 (by omega) (hall ⟨9, .data⟩ (by simp) rfl)
        obtain ⟨q', hR', hq'⟩ := hI.2.1
        rw [lf_un hu] at hq'
        refine wpOp_enter rfl rfl (f := 61) (args := #[.pointer (some ⟨w.heap.size, 0, none⟩), .int .i64 4]) ?_ (pick_any w.heap.size w.heap.size q' 4 W hR' (by omega) (by omega) (by omega)) ?_
        · have f4 := ev f4
          clear hF hall
          go_simp
        · rintro e w' ⟨v, rfl, hv0, hv3, hR3, hg3⟩
          obtain ⟨t, rfl⟩ := Int.eq_ofNat_of_zero_le hv0
          exact ⟨_, rfl, hI.step (i := 10) (by omega) (GBR.grown hg3) ⟨q' + 1, hR3, by (first | (rw [lf_same (by omega), lf_ne (by omega)]; omega) | (rw [lf_ne (by omega), lf_same (by omega)]; omega))⟩ (gb_trans hI.2.2.1 hg3) ⟨t, by omega, rfl⟩⟩
      · obtain ⟨Z, f3, hc3⟩ : ∃ Z, a.eval (.tmp 32) = .slice (some ⟨Z, 0, none⟩) 4 4 ∧ ∀ t, t < 4 → IC W w.heap.size Z t := hF 8 (by omega) (hall ⟨8, .data⟩ (by simp) rfl)
        obtain ⟨t, ht, f5⟩ : ∃ t : Nat, t < 4 ∧ a.eval (.tmp 34) = .int .i64 t := hF 10 (by omega) (hall ⟨10, .data⟩ (by simp) rfl)
        have t0 : (0 : Int) ≤ (t : Int) := by omega
        have t3 : (t : Int) < 4 := by omega
        refine wpOp_value rfl rfl (w' := W) (v := .pointer (some ⟨Z, t, none⟩)) ?_ (hI.same (i := 11) (by omega) (by omega) (by omega) ⟨Z, t, rfl, hc3 t ht⟩)
        have f3 := ev f3
        have f5 := ev f5
        clear hF hall hc3
        go_simp
      · obtain ⟨Z, t, f6, hz, x, hc⟩ : ∃ Z t, a.eval (.tmp 35) = .pointer (some ⟨Z, t, none⟩) ∧ IC W w.heap.size Z t := hF 11 (by omega) (hall ⟨11, .data⟩ (by simp) rfl)
        refine wpOp_value rfl rfl (w' := W) (v := .int .i64 x) ?_ (hI.same (i := 12) (by omega) (by omega) (by omega) ⟨x, rfl⟩)
        have f6 := ev f6
        clear hF hall
        go_simp
      · have f0 : a.eval (.tmp 24) = .int .i64 n := hF 0 (by omega) (hall ⟨0, .data⟩ (by simp) rfl)
        have f := ev f0
        refine wpOp_value rfl rfl (w' := W) (v := .int .i64 n) ?_ (hI.same (i := 13) (by omega) (by omega) (by omega) rfl)
        clear hF hall
        go_simp
      · have f0 : a.eval (.tmp 25) = .slice (some ⟨g, 0, none⟩) k c := hF 1 (by omega) (hall ⟨1, .data⟩ (by simp) rfl)
        have f := ev f0
        refine wpOp_value rfl rfl (w' := W) (v := .slice (some ⟨g, 0, none⟩) k c) ?_ (hI.same (i := 14) (by omega) (by omega) (by omega) rfl)
        clear hF hall
        go_simp
      · have f0 : a.eval (.tmp 26) = .int .i64 kk := hF 2 (by omega) (hall ⟨2, .data⟩ (by simp) rfl)
        have f := ev f0
        refine wpOp_value rfl rfl (w' := W) (v := .int .i64 kk) ?_ (hI.same (i := 15) (by omega) (by omega) (by omega) rfl)
        clear hF hall
        go_simp
      · obtain ⟨x, f⟩ : ∃ x : Int, a.eval (.tmp 31) = .int .i64 x := hF 7 (by omega) (hall ⟨7, .data⟩ (by simp) rfl)
        refine wpOp_value rfl rfl (w' := W) (v := .int .i64 x) ?_ (hI.same (i := 16) (by omega) (by omega) (by omega) ⟨x, rfl⟩)
        have f := ev f
        clear hF hall
        go_simp
      · obtain ⟨x, f⟩ : ∃ x : Int, a.eval (.tmp 36) = .int .i64 x := hF 12 (by omega) (hall ⟨12, .data⟩ (by simp) rfl)
        refine wpOp_value rfl rfl (w' := W) (v := .int .i64 x) ?_ (hI.same (i := 17) (by omega) (by omega) (by omega) ⟨x, rfl⟩)
        have f := ev f
        clear hF hall
        go_simp
  · have d0 : (v == 0) = false := beq_eq_false_iff_ne.2 h0
    clear h0
    go_wp2_with fail
    refine (pick_any _ _ (q3 + 1) 80 _ hR4 (by omega) (by omega) (by omega)).mono ?_
    rintro e w5 ⟨v5, rfl, a5, b5, hR5, hg5⟩
    have hg5 := gb_trans hg4 hg5
    clear hg4 hR4
    go_wp2_with fail
    refine (pick_any _ _ (q3 + 1 + 1) 12 _ hR5 (by omega) (by omega) (by omega)).mono ?_
    rintro e w6 ⟨v6, rfl, a6, b6, hR6, hg6⟩
    have hg6 := gb_trans hg5 hg6
    have L := Lib.hid (listDr_of HB.out hn (show k ≤ 10 by omega) HD.out (HP.out.grown (by omega) hg6) (Nat.le_refl _) (gb_trans HG.out hg6))
    clear hg5 hR5 hg6 hR6 HP HG HB HD
    go_wp2
    ((try simp only [Exit.inBlock, Exit.then]); refine bodyPost_ret (results_tmp5 rfl _ _ _) rfl ?_)
    exact ⟨n, g, k, c, D, kk, _, _, rfl, L.out⟩
/-- Does one of the first i trains meet one from t on, for run minutes? -/
def hitTo (f g : Nat → Int) (run t : Int) (i : Nat) : Prop := ∃ u, u < i ∧ f u < t + run ∧ t < g u
theorem hitTo_zero (f g : Nat → Int) (run t : Int) : ¬ hitTo f g run t 0 := fun ⟨u, h, _⟩ => by omega
theorem hitTo_step {f g : Nat → Int} {run t : Int} {i : Nat} : hitTo f g run t (i + 1) ↔ hitTo f g run t i ∨ (f i < t + run ∧ t < g i) := by
  constructor
  · rintro ⟨u, hu, r⟩
    by_cases e : u = i
    · subst e; exact .inr r
    · exact .inl ⟨u, by omega, r⟩
  · rintro (⟨u, hu, r⟩ | r)
    · exact ⟨u, by omega, r⟩
    · exact ⟨i, by omega, r⟩
theorem hitTo_hit {f g : Nat → Int} {run t : Int} {m : Nat} : hitTo f g run t m ↔ hit f g m run t := ⟨fun ⟨u, h, a, b⟩ => ⟨u, h, b, a⟩, fun ⟨u, h, a, b⟩ => ⟨u, h, b, a⟩⟩
set_option maxHeartbeats 4000000 in
theorem y_FnFree (a0 : Option Addr) (len0 cap0 : Nat) (w : World) (hA : BytesAt w.heap.size w a0 len0) (hl : len0 ≤ 1048576) (hc : len0 ≤ cap0) (hm : cap0 ≤ 9223372036854775807) :
    Calls Try.prog 9 #[.slice a0 len0 cap0] w fun e w' => e = .returned (.bool true) ∧ Below w.heap.size w w' := by
  have hAH := Lib.hid hA
  have hd0 : decide ((1048576 : Int) < (len0 : Int)) = false := by simp; omega
  clear hA
  go_enter Try.func9, Try.ntmps9
  go_wp2_with fail
  refine (d_DrawPathsFree a0 len0 cap0 w hAH.out hl hc hm).mono ?_
  rintro e wb ⟨n, g, m, c, D, k, frm, run, rfl, hn, hm10, hD, hp, hb⟩
  clear hc hm hAH hl hd0
  have HB := Lib.hid hb
  have P0 := Lib.hid hp
  clear hb hp
  by_cases hok : freeOK n D m k frm run
  rotate_left
  · have VV := Lib.hid hok
    clear hok
    go_wp2_with fail
    refine (iFree_no _ m c D n k frm run _ P0.out (by omega) VV.out).mono ?_
    rintro e w1 ⟨rfl, hb1⟩
    have P1 := Lib.hid (P0.out.topb hb1)
    go_wp2_with fail
    refine (sFree_no _ m c D n k frm run _ P1.out (by omega) VV.out).mono ?_
    rintro e w2 ⟨rfl, hb2⟩
    have hb2 := bl hb1 (Nat.le_refl _) hb2
    clear hb1 P1
    go_wp2
    go_ret
    exact ⟨rfl, bl HB.out (Nat.le_refl _) hb2⟩
  obtain ⟨hv, hr1, hr2, hf1⟩ := hok
  obtain ⟨hpv, hk0, hkn⟩ := hasS_iff.1 hv
  obtain ⟨j, rfl⟩ := Int.eq_ofNat_of_zero_le hk0
  have hm8 : m ≤ 8 := (pathsV_iff.1 hpv).2.2.1
  have PV := Lib.hid hpv
  have VV := Lib.hid hv
  obtain ⟨F, hF⟩ : ∃ F : Nat → Int, (fun i => (D i).f1 j) = F := ⟨_, rfl⟩
  obtain ⟨G, hG⟩ : ∃ G : Nat → Int, (fun i => (D i).f2 j) = G := ⟨_, rfl⟩
  have HF := Lib.hid hF
  have HG := Lib.hid hG
  obtain ⟨v, ok, hFr⟩ := isFree_ex F G m frm run
  have hI := fun (W : World) (A : Option Addr) (c : Nat) (h : PsRn W W.heap.size A m D) (s : Int) (hs : 0 ≤ s) (u : Int) (o : Bool) (hu : IsFree F G m s run u o) => iFree_yes A m c D n j s run W h ⟨hv, hr1, hr2, hs⟩ u o (by rw [hF, hG]; exact hu)
  have hS := fun (W : World) (A : Option Addr) (c : Nat) (h : PsRn W W.heap.size A m D) => sFree_yes A m c D n j frm run W h ⟨hv, hr1, hr2, hf1⟩ v ok (by rw [hF, hG]; exact hFr)
  have I := Lib.hid hI
  have S := Lib.hid hS
  have FR := Lib.hid hFr
  clear hv hpv hF hG hI hS hFr
  go_wp2_with fail
  refine (I.out _ _ _ P0.out frm hf1 v ok FR.out).mono ?_
  rintro e w1 ⟨rfl, hb1⟩
  have P1 := Lib.hid (P0.out.topb hb1)
  go_wp2_with fail
  refine (S.out _ _ _ P1.out).mono ?_
  rintro e w2 ⟨rfl, hb2⟩
  have P2 := Lib.hid (P1.out.topb hb2)
  have HB2 := Lib.hid (bl (bl HB.out (Nat.le_refl _) hb1) (Nat.le_refl _) hb2)
  clear hb1 hb2 P1 P0 HB S
  cases ok
  · clear FR I
    go_wp2
    go_ret
    exact ⟨rfl, HB2.out⟩
  rcases FR.out with ⟨-, hv1, hv2, hv3, hv4⟩ | ⟨h, -, -⟩
  rotate_left
  · cases h
  have NH := Lib.hid hv3
  have YH := Lib.hid hv4
  have AG : Hid (IsFree F G m v run v true) := .inl ⟨rfl, Int.le_refl _, hv2, hv3, fun s h1 h2 => by omega⟩
  clear hv3 hv4 FR
  go_wp2_with fail
  go_loopw [12] (fun t wr => ∃ s : Int, frm ≤ s ∧ s ≤ v + 1 ∧ t = .int .i64 s ∧ Hid (∃ q, wr = w2.drewN q)) (fun t _ => (v + 1 - intOf t).toNat)
  case atStart => exact ⟨frm, Int.le_refl _, by omega, rfl, 0, rfl⟩
  case round =>
    obtain ⟨s, hs1, hs2, rfl, hq⟩ := hrel
    by_cases hle : s ≤ v
    · have ds : decide (s ≤ v) = true := decide_eq_true hle
      obtain ⟨wo, rfl⟩ : ∃ wo : World, wo = wr := ⟨_, rfl⟩
      go_wp2_with fail
      go_loopw [13, 14] (fun h i wr => ∃ (u : Nat) (bb : Bool), u ≤ m ∧ i = .int .i64 u ∧ h = .bool bb ∧ Hid (bb = true ↔ hitTo F G run s u) ∧ Hid (∃ q, wr = w2.drewN q)) (fun _ i _ => m - (intOf i).toNat)
      case atStart => exact ⟨0, false, Nat.zero_le _, rfl, rfl, by constructor <;> intro h; cases h; exact absurd h (hitTo_zero _ _ _ _), hq⟩
      case round =>
        clear hq
        obtain ⟨u, cc, hu, rfl, rfl, hcc, hq⟩ := hrel
        by_cases hult : u < m
        · have P4 : Hid (PsRn wr wr.heap.size (some ⟨g, 0, none⟩) m D) := by obtain ⟨q, rfl⟩ := hq.out; exact P2.out.topq q
          obtain ⟨a1, k1, a2, k2, n1, f1, n2, f2, hD1, x0, x1, r1, r2⟩ := psRn_at0 P4.out hult
          have atx := pathsV_at PV.out hult
          have hFx : F u = f1 j := by rw [← HF.out]; simp only [hD1]
          have hGx : G u = f2 j := by rw [← HG.out]; simp only [hD1]
          rw [hD1] at atx
          obtain ⟨l1, l2, bx⟩ := atx
          have bx := bx j hkn
          simp only at l1 l2 bx
          obtain ⟨s1, o1, rfl, hd1, hc1⟩ := r1 (by omega)
          obtain ⟨s2, o2, rfl, hd2, hc2⟩ := r2 (by omega)
          have v1 := hc1 j (by omega)
          have v2 := hc2 j (by omega)
          have stp := hitTo_step (f := F) (g := G) (run := run) (t := s) (i := u)
          rw [hFx, hGx] at stp
          generalize f1 j = ux at *
          generalize f2 j = uz at *
          have y3 : IntKind.i64.wrap (s + run) = s + run := IntWalk.i64_in _ (by omega)
          have j2 : (0 : Int) ≤ (u : Int) := by omega
          have j3 : (u : Int) < (m : Int) := by omega
          have j7 : (j : Int) < (n1 : Int) := by omega
          have j8 : (j : Int) < (n2 : Int) := by omega
          have j11 : (0 : Int) ≤ (j : Int) := by omega
          have HH : ∀ b : Bool, (b = true ↔ (cc = true ∨ (ux < s + run ∧ s < uz))) → Hid (b = true ↔ hitTo F G run s (u + 1)) := by
            intro b hb
            show _ ↔ _
            rw [hb, stp, ← hcc.out]
          clear hc1 hc2 hFx hGx hD1 r1 r2 l1 l2 stp bx hcc
          go_wp2
          all_goals
            first
            | (exfalso; omega)
            | (go_roundw
               case rel => exact ⟨u + 1, _, by omega, by go_num, rfl, HH _ (by by_cases c1 : cc = true <;> by_cases c2 : ux < s + run <;> by_cases c3 : s < uz <;> first | contradiction | (exfalso; omega) | (simp [c1, c2, c3]; done) | (simp [c1, c2, c3]; omega)), hq⟩
               case measure => simp [intOf]; omega)
        · obtain rfl : u = m := by omega
          by_cases hsv : s < v
          · have hc1 : cc = true := hcc.out.2 (hitTo_hit.2 (YH.out s hs1 hsv))
            subst hc1
            have dsv : decide (s < v) = true := decide_eq_true hsv
            have y4 : IntKind.i64.wrap (s + 1) = s + 1 := IntWalk.i64_in _ (by omega)
            clear hcc
            go_wp2
            go_roundw
            case rel => exact ⟨s + 1, by omega, by omega, by go_num, hq⟩
            case measure => simp [intOf]; omega
          · obtain rfl : s = v := by omega
            have hc1 : cc = false := by cases cc; rfl; exact absurd (hitTo_hit.1 (hcc.out.1 rfl)) NH.out
            subst hc1
            have dsv : decide (s < s) = false := decide_eq_false (by omega)
            have y4 : IntKind.i64.wrap (s + 1) = s + 1 := IntWalk.i64_in _ (by omega)
            clear hcc
            go_wp2
            go_roundw
            case rel => exact ⟨s + 1, by omega, by omega, by go_num, hq⟩
            case measure => simp [intOf]; omega
    · have ds : decide (s ≤ v) = false := decide_eq_false hle
      have P4 : Hid (PsRn wr wr.heap.size (some ⟨g, 0, none⟩) m D) := by obtain ⟨q, rfl⟩ := hq.out; exact P2.out.topq q
      have HX : Hid (Below w2.heap.size w2 wr) := by obtain ⟨q, rfl⟩ := hq.out; exact dn_below _ _ _
      go_wp2_with fail
      refine (I.out _ _ _ P4.out v (by omega) v true AG.out).mono ?_
      rintro e w4 ⟨rfl, hb4⟩
      have dg : decide (frm ≤ v) = true := decide_eq_true hv1
      have HB4 := Lib.hid (bl (bl HB2.out (Nat.le_refl _) HX.out) (Nat.le_refl _) hb4)
      clear hb4 HX P4
      go_wp2
      go_ret
      exact ⟨rfl, HB4.out⟩
theorem w_FnFree (a0 : Option Addr) (len0 cap0 : Nat) (z0 : List Int) (w : World) (w0 : IsRow .u8 w a0 len0 cap0 z0) :
    Calls Try.prog 9 #[.slice a0 len0 cap0] w fun e w' => e = .returned (.bool true) ∧ Below w.heap.size w w' := by
  obtain ⟨hA, hc, hm⟩ := w0.bytes
  by_cases hs0 : 1048576 < len0
  · have hd0 : decide ((1048576 : Int) < (len0 : Int)) = true := by simp; omega
    clear w0 hA
    go_enter Try.func9, Try.ntmps9
    go_wp2
    go_ret
    exact ⟨rfl, Below.refl _ _⟩
  · exact y_FnFree a0 len0 cap0 w hA (by omega) hc hm
end Go.Proofs.Ytjppkcfbhhjniaa
