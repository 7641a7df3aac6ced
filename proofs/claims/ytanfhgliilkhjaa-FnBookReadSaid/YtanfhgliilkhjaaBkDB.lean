/-
  Contracts of the reference's BookFind, of the draw of a book.
-/
import Derived.Test.YtanfhgliilkhjaaBkDR
import Derived.Deep.RegionLaw
import Derived.BigCall
namespace Go.Proofs.Ytanfhgliilkhjaa
open Go.RowKit Go.Deep
set_option linter.unusedVariables false

theorem bool_ex (P : Prop) : ∃ v : Bool, v = true ↔ P := by
  rcases Classical.em P with h | h
  · exact ⟨true, fun _ => h, fun _ => rfl⟩
  · exact ⟨false, fun x => (by cases x), fun x => absurd x h⟩
theorem lstInfo : (Try.prog.info? 23).map (fun i => (i.zero, i.size, i.bytes)) = some (some (.slice none 0 0), 1, 24) := by kernel_rfl
set_option maxHeartbeats 1000000 in
theorem sFind (A : Option Addr) (m c : Nat) (D : Nat → LD) (E : Option Addr) (n d : Nat) (f : Nat → Int) (w : World) (h : SsRn w w.heap.size A m D) (hm : m ≤ 1048576) (hD : ∀ i, i < m → (D i).n ≤ 1048576) (hE : Rn w w.heap.size E n f) (hn : n ≤ 1048576) :
    Calls Try.prog 86 #[.slice A m c, .slice E n d] w fun e w' => ∃ v : Int, e = .returned (.int .i64 v) ∧ Below w.heap.size w w' := by
  obtain ⟨v, hv⟩ := bool_ex (bookV D m)
  have H := Lib.hid h
  have HD := Lib.hid hD
  have HE := Lib.hid hE
  have HV := Lib.hid hv
  clear h hD hE hv
  go_enter Try.func86, Try.ntmps86
  go_wp2_with fail
  go_loopw [5] (fun i wr => ∃ k : Nat, k ≤ m ∧ i = .int .i64 k ∧ Hid (Below w.heap.size w wr)) (fun i _ => (m - intOf i).toNat)
  case atStart => exact ⟨0, Nat.zero_le _, rfl, Below.refl _ _⟩
  case round =>
    obtain ⟨k, hk, rfl, hb⟩ := hrel
    by_cases hlt : k < m
    · obtain ⟨b, off, a1, c1, n1, f1, rfl, hbB, hDk, x0, r1⟩ := H.out.at_ hlt
      have hn1 : n1 ≤ 1048576 := by have := HD.out k hlt; rw [hDk] at this; exact this
      have d1 : decide ((k : Int) < (m : Int)) = true := decide_eq_true (by omega)
      have d2 : decide (k < m) = true := decide_eq_true (by omega)
      have k0 : (0 : Int) ≤ (k : Int) := by omega
      have k1 : (k : Int) < (m : Int) := by omega
      have HS := Lib.hid ((H.out.below hb.out).up hb.out.size)
      have X0 := Lib.hid x0
      have R1 := Lib.hid r1
      clear hDk r1 x0
      go_wp2_with fail
      refine (sBook _ m c D _ HS.out hm HD.out v HV.out).mono ?_
      rintro e w1 ⟨rfl, hb1⟩
      have HB := Lib.hid (bl hb.out (Nat.le_refl _) hb1)
      clear hb hb1 HS
      cases v
      · go_wp2
        go_ret
        exact ⟨-1, rfl, HB.out⟩
      · have x1 := (HB.out.cell (p := ⟨b, off + k, none⟩) hbB).trans X0.out
        have R2 := Lib.hid ((R1.out.below HB.out).up HB.out.size)
        have E2 := Lib.hid ((HE.out.below HB.out).up HB.out.size)
        go_wp2_with fail
        refine (l1same a1 n1 c1 f1 E n d f _ R2.out E2.out (by omega) (by omega)).mono ?_
        rintro e w2 ⟨rfl, q, rfl⟩
        have HB2 := Lib.hid (below_dn HB.out q)
        clear HB R2 E2 x1
        cases eqI n1 f1 n f
        · go_wp2
          go_roundw
          case rel => exact ⟨k + 1, by omega, by go_num, HB2.out⟩
          case measure => simp [intOf]; omega
        · go_wp2
          go_ret
          exact ⟨_, rfl, HB2.out⟩
    · obtain rfl : k = m := by omega
      have d1 : decide ((k : Int) < (k : Int)) = false := decide_eq_false (by omega)
      have d2 : decide (k < k) = false := decide_eq_false (by omega)
      go_wp2
      go_ret
      exact ⟨-1, rfl, hb.out⟩
/-- What a draw of a book leaves. -/
def BookDr (T : TypeId) (B : Nat) (w : World) (R q0 : Nat) (e : Ending) (w' : World) : Prop :=
  ∃ (g k c : Nat) (D : Nat → LD) (q : Nat), e = .returned (.slice (some ⟨g, 0, none⟩) k c) ∧ k ≤ 6 ∧ lens6 D k ∧ DLs w' T w.heap.size g k c D ∧ Rd B w' R q ∧ q ≤ q0 ∧ w.grownBy w' (some R)
set_option maxRecDepth 100000 in
set_option maxHeartbeats 8000000 in
theorem book_any (B R p : Nat) (w : World) (h : Rd B w R p) (hp : p ≤ 20000) :
    Calls Try.prog 62 #[.pointer (some ⟨R, 0, none⟩)] w (BookDr 23 B w R (p + 100)) := by
  obtain ⟨i0, ji0, jz0, jz1, jz2⟩ := info_parts lstInfo
  have hlt := h.lt
  have hbs := h.base
  have hr0 := h.alloc (.cells #[] 23)
  have hd0 := DLs.new0 w 23 w.heap.size (fun _ => ⟨0, fun _ => 0⟩) (Nat.le_refl _)
  have hg0 : w.grownBy (w.alloc (.cells #[] 23)) (some R) := gb_alloc (gb_refl w _) _
  clear h
  go_enter Try.func62, Try.ntmps62
  go_wp2_with fail
  refine (pick_any B R p 6 _ hr0 (by omega) (by omega) (by omega)).mono ?_
  rintro e w1 ⟨v0, rfl, hv0, hv1, hR, hg⟩
  have HD := Lib.hid (hd0.grown hlt hg)
  have HG := Lib.hid (gb_trans hg0 hg)
  obtain ⟨n, rfl⟩ := Int.eq_ofNat_of_zero_le hv0
  clear hr0 hd0 hg0 hg hv0
  go_wp2_with fail
  go_loopw [3, 5] (fun v i wr => ∃ (j g k c q : Nat) (D : Nat → LD), j ≤ n ∧ i = .int .i64 j ∧ v = .slice (some ⟨g, 0, none⟩) k c ∧ k ≤ j ∧ Hid (lens6 D k) ∧ Hid (DLs wr 23 w.heap.size g k c D) ∧ Rd B wr R q ∧ q ≤ p + 1 + 10 * j ∧ Hid (w.grownBy wr (some R))) (fun _ i _ => n - (intOf i).toNat)
  case atStart => exact ⟨0, _, 0, _, p + 1, _, by omega, rfl, rfl, by omega, fun t ht => absurd ht (by omega), HD.out, hR, by omega, HG.out⟩
  case round =>
    clear HD HG hR
    obtain ⟨j, g, k, c, q, D, hj, rfl, rfl, hk, hL, hD, hR, hq, hG⟩ := hrel
    have hs := hG.out.size
    by_cases hlt2 : j < n
    · go_wp2_with fail
      refine (code_any B R q _ hR (by omega)).mono ?_
      rintro e w2 ⟨gx, nx, cx, lx, q2, rfl, hnx, hX, hR, hq2, hg2⟩
      have HD := Lib.hid (hD.out.grown hlt hg2)
      have HG := Lib.hid (gb_trans hG.out hg2)
      have HX := Lib.hid hX
      have HRn := Lib.hid hX.rn
      have hs2 := hg2.size
      have hgl := hD.out.lt
      have hxl := hX.lt
      have hxcap := hX.cap.1
      have hR2 := Lib.hid hR
      obtain ⟨cv, hcv⟩ := bool_ex (codeV ⟨nx, fun i => lx.getD i 0⟩)
      have HCV := Lib.hid hcv
      clear hD hG hX hg2 hR hcv
      go_wp2_with fail
      refine (sCode _ nx cx _ _ HRn.out (by omega) cv HCV.out).mono ?_
      rintro e w3 ⟨rfl, rfl⟩
      cases cv
      · go_wp2
        go_roundw
        case rel => exact ⟨j + 1, g, k, c, q2, D, by omega, by go_num, rfl, by omega, hL.out, HD.out, hR2.out, by omega, HG.out⟩
        case measure => simp [intOf]; omega
      · go_wp2_with fail
        refine (sFind _ k c D _ nx cx _ _ HD.out.rn (by omega) (fun i hi => by have := hL.out i hi; omega) HRn.out (by omega)).mono ?_
        rintro e w4 ⟨v, rfl, hb4⟩
        have HD4 := Lib.hid (HD.out.call hb4)
        have HG4 := Lib.hid (gb_below HG.out hb4)
        have HX4 := Lib.hid (HX.out.call hb4)
        have HR4 := Lib.hid (hR2.out.call hb4)
        have hs4 := hb4.size
        clear HD HG HX HRn hR2 hb4
        by_cases hv : v < 0
        · have d1 : decide (v < 0) = true := decide_eq_true hv
          obtain ⟨xs, ho, hx⟩ := HD4.out.alloc (.cells #[.slice (some ⟨gx, 0, none⟩) nx cx] 23)
          have hcp := owns_cap ho
          have HO := Lib.hid ho
          have hxl2 := ho.1
          have HC := Lib.hid hx
          have HRx := Lib.hid (Rx.of_rl (lo := w.heap.size) (g := g) (HX4.out.rl.alloc (.cells #[.slice (some ⟨gx, 0, none⟩) nx cx] 23)) (by omega) (by omega))
          have HR5 := Lib.hid (HR4.out.alloc (.cells #[.slice (some ⟨gx, 0, none⟩) nx cx] 23))
          have HG5 := Lib.hid (gb_alloc HG4.out (.cells #[.slice (some ⟨gx, 0, none⟩) nx cx] 23))
          clear ho hx hv HG4 HR4 HX4
          go_wp2_with (at_builtin; refine wpList_append_lies _ rfl _ _ _ rfl w.heap.size 23 i0 (.slice none 0 0) 1 24 Try.underlying22 ji0 jz0 jz1 jz2 rfl (by omega) (.slice (some ⟨g, 0, none⟩) k c) k xs rfl HO.out ⟨w4.heap.size, 0, none⟩ 1 1 [.slice (some ⟨gx, 0, none⟩) nx cx] rfl rfl ?d1 (by simp [Value.oneCell']) (by omega) ?d3 ?d4 ?d5 (w4.heap.size + 1) ?d6 ?_)
          try case d1 => exact World.news_of_block (cs := #[.slice (some ⟨gx, 0, none⟩) nx cx]) (t := 23) (fr := (0, 0)) (heap_alloc_new w4 _)
          case d3 => unfold maxLen; omega
          case d4 => omega
          case d5 => first | omega | (simp; omega)
          try case d6 => simp
          intro g6 k6 w6 hown6 hg6 hat6 hlt6
          have hg6 : (w4.alloc (.cells #[.slice (some ⟨gx, 0, none⟩) nx cx] 23)).grownBy w6 (some g) := hg6
          have hat6 : g6 = g ∨ g6 = w4.heap.size + 1 := by rcases hat6 with h | h; (simp [Value.ownBlock] at h; exact .inl h.symm); exact .inr h
          have HD6 := Lib.hid (DLs.put (by omega) HC.out hxcap HRx.out hown6 (by rcases hat6 with h | h; exact .inl h; exact .inr (by simp; omega)) hg6)
          have HG6 := Lib.hid (gb_new HG5.out hg6 (by omega))
          have HR6 := Lib.hid (HR5.out.gr hg6 (by omega))
          have HL6 := Lib.hid (lens6_add (f1 := fun i => lx.getD i 0) hL.out hnx)
          clear hown6 hg6 HO HC HRx HR5 HG5 HD4
          go_wp2_with fail
          go_roundw
          case rel => exact ⟨j + 1, g6, k + 1, k6, q2, _, by omega, by go_num, rfl, by omega, HL6.out, HD6.out, HR6.out, by omega, HG6.out⟩
          case measure => simp [intOf]; omega
        · have d1 : decide (v < 0) = false := decide_eq_false hv
          clear hv
          go_wp2
          go_roundw
          case rel => exact ⟨j + 1, g, k, c, q2, D, by omega, by go_num, rfl, by omega, hL.out, HD4.out, HR4.out, by omega, HG4.out⟩
          case measure => simp [intOf]; omega
    · obtain rfl : j = n := by omega
      by_cases hk0 : k = 0
      · subst hk0
        go_wp2
        go_ret
        exact ⟨g, 0, c, D, q, rfl, by omega, hL.out, hD.out, hR, by omega, hG.out⟩
      have d0 : decide (0 < k) = true := decide_eq_true (by omega)
      have d0' : decide ((0 : Int) < (k : Int)) = true := decide_eq_true (by omega)
      go_wp2_with fail
      refine (pick_any B R q 30 _ hR (by omega) (by omega) (by omega)).mono ?_
      rintro e w2 ⟨v, rfl, hva, hvb, hR, hg2⟩
      have HD := Lib.hid (hD.out.grown hlt hg2)
      have HG := Lib.hid (gb_trans hG.out hg2)
      have hs2 := hg2.size
      have hR2 := Lib.hid hR
      clear hD hG hg2 hR
      by_cases hv : v = 0
      · subst hv
        have hgl := HD.out.lt
        go_wp2_with fail
        refine wp_region_any (by kernel_rfl) ?_
        refine wpAny_inv (BkI 23 B w.heap.size g k c R (p + 90) D w) ?done ?step _ _ _ _ (by simp) (fun j o _ hl => (repl_no hl).elim) (by simp [openN]) ?init
        case init => exact ⟨⟨rfl, rfl, rfl, rfl⟩, ⟨q + 1, hR2.out.drew, by split <;> omega⟩, gb_drew HG.out, fun _ => HD.out, fun j hj hl => (repl_no hl).elim⟩
        case done =>
          intro L a W hs hsh hr hI
          have hall := all_listed hs hr (depsOk_spec (by kernel_rfl))
          obtain ⟨g', c', D', e2, hl6, hd6⟩ := hI.2.2.2.2 13 (by omega) (hall 13 (by simp))
          obtain ⟨q', hR', hq'⟩ := hI.2.1
          have e2 : a.tmps.getD 2 undef = .slice (some ⟨g', 0, none⟩) (k + 1) c' := e2
          have HP : Hid (BookDr 23 B w R (p + 100) (.returned (.slice (some ⟨g', 0, none⟩) (k + 1) c')) W) := ⟨g', k + 1, c', D', q', rfl, by omega, hl6, hd6, hR', by omega, hI.2.2.1⟩
          have hdf := hI.1.2.1
          clear hall hr hsh hs hl6 hd6 hR' hq' hI HD HG hR2
          obtain ⟨tm, df⟩ := a
          simp only at hdf
          subst hdf
          go_wp2
          go_ret
          rw [e2]
          exact HP.out
        case step =>
          intro L a W i hs hsh hi hI
          have hs14 : L.size = 14 := by simpa using hs
          obtain ⟨h0, o, ho, hall⟩ := mem_ready.1 hi
          have hi14 : i < 14 := by
            rcases Nat.lt_or_ge i 14 with h | h
            · exact h
            · rw [Array.getElem?_eq_none (by simpa using h)] at ho; cases ho
          have hu := getD_un h0
          have hno : (i = 1 ∨ i = 2 ∨ i = 5 ∨ i = 6 ∨ i = 8 ∨ i = 11 ∨ i = 12) → L.getD 12 false = false ∧ L.getD 13 false = false := fun hx => by
            have h12 : L.getD 12 false = false := by
              cases h : L.getD 12 false
              · rfl
              · exfalso
                have a11 := hsh 12 _ rfl h ⟨11, .data⟩ (by simp) rfl
                have a10 := hsh 11 _ rfl a11 ⟨10, .data⟩ (by simp) rfl
                have a9 := hsh 10 _ rfl a10 ⟨9, .data⟩ (by simp) rfl
                have a6 := hsh 9 _ rfl a9 ⟨6, .data⟩ (by simp) rfl
                have a8 := hsh 9 _ rfl a9 ⟨8, .data⟩ (by simp) rfl
                have a1 := hsh 6 _ rfl a6 ⟨1, .data⟩ (by simp) rfl
                have a2 := hsh 6 _ rfl a6 ⟨2, .data⟩ (by simp) rfl
                have a5 := hsh 6 _ rfl a6 ⟨5, .data⟩ (by simp) rfl
                rcases hx with rfl | rfl | rfl | rfl | rfl | rfl | rfl
                · rw [a1] at hu; cases hu
                · rw [a2] at hu; cases hu
                · rw [a5] at hu; cases hu
                · rw [a6] at hu; cases hu
                · rw [a8] at hu; cases hu
                · rw [a11] at hu; cases hu
                · rw [h] at hu; cases hu
            refine ⟨h12, ?_⟩
            cases h : L.getD 13 false
            · rfl
            · exfalso
              have a12 := hsh 13 _ rfl h ⟨12, .data⟩ (by simp) rfl
              rw [h12] at a12; cases a12
          have h37 := hI.1.2.2.2
          have h00 := hI.1.2.2.1
          have hF := hI.2.2.2.2
          have hlo := hI.2.2.1.size
          have hi' : i = 0 ∨ i = 1 ∨ i = 2 ∨ i = 3 ∨ i = 4 ∨ i = 5 ∨ i = 6 ∨ i = 7 ∨ i = 8 ∨ i = 9 ∨ i = 10 ∨ i = 11 ∨ i = 12 ∨ i = 13 := by omega
          rcases hi' with rfl | rfl | rfl | rfl | rfl | rfl | rfl | rfl | rfl | rfl | rfl | rfl | rfl | rfl
          all_goals
            simp only [List.getElem?_toArray, List.getElem?_cons_zero, List.getElem?_cons_succ, Option.some.injEq] at ho
            subst ho
          · refine wpOp_value rfl rfl (w' := W) (v := .slice (some ⟨g, 0, none⟩) k c) ?_ (hI.same (i := 0) (by omega) hs14 (by omega) rfl)
            simp [execOp, h37]
          · refine wpOp_value rfl rfl (w' := W.alloc (.cells #[] 3)) (v := .slice (some ⟨W.heap.size, 0, none⟩) 0 0) ?_ (hI.made (i := 1) _ (by omega) hs14 (by omega) (by omega) (hno (by omega)) ⟨_, 0, 0, fun _ => 0, rfl, ⟨by omega, by omega⟩, fun h => absurd h (by omega)⟩)
            go_simp
          · have hgl2 := (hI.2.2.2.1 (hno (by omega)).1).lt
            refine wpOp_value rfl rfl (w' := W.alloc (.cells #[.int .i64 7] 3)) (v := .slice (some ⟨W.heap.size, 0, none⟩) 1 1) ?_ (hI.made (i := 2) _ (by omega) hs14 (by omega) (by omega) (hno (by omega)) ⟨_, 1, 1, fun _ => 7, rfl, ⟨by omega, by omega⟩, fun h => ⟨W.heap.size, 0, rfl, hlo, by simp, by omega, fun t ht => ?_⟩⟩)
            · go_simp
            · obtain rfl : t = 0 := by omega
              exact (Bx.new W [.int .i64 7] 3).cell (i := 0) (by simp)
          · refine wpOp_value rfl rfl (w' := W) (v := .slice (some ⟨g, 0, none⟩) k c) ?_ (hI.same (i := 3) (by omega) hs14 (by omega) rfl)
            simp [execOp, h37]
          · have f3 : a.eval (.tmp 40) = .slice (some ⟨g, 0, none⟩) k c := hF 3 (by omega) (hall ⟨3, .data⟩ (by simp) rfl)
            have k0 : (0 : Int) < (k : Int) := by omega
            refine wpOp_value rfl rfl (w' := W) (v := .pointer (some ⟨g, 0, none⟩)) ?_ (hI.same (i := 4) (by omega) hs14 (by omega) rfl)
            have f3 := ev f3
            clear hF hall hno
            go_simp
          · have f4 : a.eval (.tmp 41) = .pointer (some ⟨g, 0, none⟩) := hF 4 (by omega) (hall ⟨4, .data⟩ (by simp) rfl)
            obtain ⟨xs, ho, hx⟩ := hI.2.2.2.1 (hno (by omega)).1
            obtain ⟨a1, c1, e1, l1, r1⟩ := hx 0 (by omega)
            have cy := ho.cells (g := g) rfl 0 _ e1
            rw [add_at] at cy
            refine wpOp_value rfl rfl (w' := W) (v := .slice a1 (D 0).n c1) ?_ (hI.same (i := 5) (by omega) hs14 (by omega) ⟨a1, _, c1, _, rfl, ⟨hL.out 0 (by omega), l1⟩, r1⟩)
            have f4 := ev f4
            clear hF hall hno
            go_simp
          · obtain ⟨A1, n1, c1, f1, s1, l1, r1⟩ : SL W w.heap.size g (a.eval (.tmp 38)) := hF 1 (by omega) (hall ⟨1, .data⟩ (by simp) rfl)
            obtain ⟨A2, n2, c2, f2, s2, l2, r2⟩ : SL W w.heap.size g (a.eval (.tmp 39)) := hF 2 (by omega) (hall ⟨2, .data⟩ (by simp) rfl)
            obtain ⟨A3, n3, c3, f3, s3, l3, r3⟩ : SL W w.heap.size g (a.eval (.tmp 42)) := hF 5 (by omega) (hall ⟨5, .data⟩ (by simp) rfl)
            have hgl2 := (hI.2.2.2.1 (hno (by omega)).1).lt
            have bx := Bx.new W [.slice A1 n1 c1, .slice A2 n2 c2, .slice A3 n3 c3] 23
            refine wpOp_value rfl rfl (w' := W.alloc (.cells #[.slice A1 n1 c1, .slice A2 n2 c2, .slice A3 n3 c3] 23)) (v := .slice (some ⟨W.heap.size, 0, none⟩) 3 3) ?_ (hI.made (i := 6) _ (by omega) hs14 (by omega) (by omega) (hno (by omega)) ⟨_, rfl, fun t ht => ?_⟩)
            · have s1 := ev s1
              have s2 := ev s2
              have s3 := ev s3
              clear hF hall hno
              go_simp
            · have ht3 : t = 0 ∨ t = 1 ∨ t = 2 := by omega
              rcases ht3 with rfl | rfl | rfl
              · exact SC.new hlo hgl2.2 (bx.cell (i := 0) (by simp)) ⟨A1, n1, c1, f1, rfl, l1, r1⟩
              · exact SC.new hlo hgl2.2 (bx.cell (i := 1) (by simp)) ⟨A2, n2, c2, f2, rfl, l2, r2⟩
              · exact SC.new hlo hgl2.2 (bx.cell (i := 2) (by simp)) ⟨A3, n3, c3, f3, rfl, l3, r3⟩
          · refine wpOp_value rfl rfl (w' := W) (v := .pointer (some ⟨R, 0, none⟩)) ?_ (hI.same (i := 7) (by omega) hs14 (by omega) rfl)
            simp [execOp, h00]
          · have f7 : a.eval (.tmp 44) = .pointer (some ⟨R, 0, none⟩) := hF 7 (by omega) (hall ⟨7, .data⟩ (by simp) rfl)
            obtain ⟨q', hR', hq'⟩ := hI.2.1
            rw [if_neg (by rw [hu]; simp)] at hq'
            have hno8 := hno (by omega)
            refine wpOp_enter rfl rfl (f := 71) (args := #[.pointer (some ⟨R, 0, none⟩), .int .i64 3]) ?_ (pick_any B R q' 3 W hR' (by omega) (by omega) (by omega)) ?_
            · have f7 := ev f7
              clear hF hall hno
              go_simp
            · rintro e w' ⟨v, rfl, hv0, hv3, hR3, hg3⟩
              obtain ⟨t, rfl⟩ := Int.eq_ofNat_of_zero_le hv0
              refine ⟨_, rfl, hI.step (i := 8) (by omega) hs14 (GB.grown hg3 (.inl hlt)) (fun x => by rw [hno8.1, hno8.2] at x; simp at x) ⟨q' + 1, hR3, by rw [if_pos (getD_same (by omega))]; omega⟩ (gb_trans hI.2.2.1 hg3) (fun _ => (hI.2.2.2.1 hno8.1).grown hlt hg3) ⟨t, by omega, rfl⟩⟩
          · obtain ⟨Z, f6, hc6⟩ : ∃ Z, a.eval (.tmp 43) = .slice (some ⟨Z, 0, none⟩) 3 3 ∧ ∀ t, t < 3 → SC W w.heap.size g Z t := hF 6 (by omega) (hall ⟨6, .data⟩ (by simp) rfl)
            obtain ⟨t, ht, f8⟩ : ∃ t : Nat, t < 3 ∧ a.eval (.tmp 45) = .int .i64 t := hF 8 (by omega) (hall ⟨8, .data⟩ (by simp) rfl)
            have t0 : (0 : Int) ≤ (t : Int) := by omega
            have t3 : (t : Int) < 3 := by omega
            refine wpOp_value rfl rfl (w' := W) (v := .pointer (some ⟨Z, t, none⟩)) ?_ (hI.same (i := 9) (by omega) hs14 (by omega) ⟨Z, t, rfl, hc6 t ht⟩)
            have f6 := ev f6
            have f8 := ev f8
            clear hF hall hno hc6
            go_simp
          · obtain ⟨Z, t, f9, hz, v, hc, A1, n1, c1, f1, rfl, l1, r1⟩ : ∃ Z t, a.eval (.tmp 46) = .pointer (some ⟨Z, t, none⟩) ∧ SC W w.heap.size g Z t := hF 9 (by omega) (hall ⟨9, .data⟩ (by simp) rfl)
            refine wpOp_value rfl rfl (w' := W) (v := .slice A1 n1 c1) ?_ (hI.same (i := 10) (by omega) hs14 (by omega) ⟨A1, n1, c1, f1, rfl, l1, r1⟩)
            have f9 := ev f9
            clear hF hall hno
            go_simp
          · obtain ⟨A1, n1, c1, f1, s1, l1, r1⟩ : SL W w.heap.size g (a.eval (.tmp 47)) := hF 10 (by omega) (hall ⟨10, .data⟩ (by simp) rfl)
            have hgl2 := (hI.2.2.2.1 (hno (by omega)).1).lt
            have bx := Bx.new W [.slice A1 n1 c1] 23
            refine wpOp_value rfl rfl (w' := W.alloc (.cells #[.slice A1 n1 c1] 23)) (v := .slice (some ⟨W.heap.size, 0, none⟩) 1 1) ?_ (hI.made (i := 11) _ (by omega) hs14 (by omega) (by omega) (hno (by omega)) ⟨_, rfl, SC.new hlo hgl2.2 (bx.cell (i := 0) (by simp)) ⟨A1, n1, c1, f1, rfl, l1, r1⟩⟩)
            have s1 := ev s1
            clear hF hall hno
            go_simp
          · have f0 : a.eval (.tmp 37) = .slice (some ⟨g, 0, none⟩) k c := hF 0 (by omega) (hall ⟨0, .data⟩ (by simp) rfl)
            obtain ⟨Y, f11, hY, v, hc, A1, n1, c1, f1, rfl, l1, r1⟩ : ∃ Y, a.eval (.tmp 48) = .slice (some ⟨Y, 0, none⟩) 1 1 ∧ SC W w.heap.size g Y 0 := hF 11 (by omega) (hall ⟨11, .data⟩ (by simp) rfl)
            obtain ⟨xs, ho, hx⟩ := hI.2.2.2.1 (hno (by omega)).1
            have hcp := owns_cap ho
            have hxl := ho.1
            have hgl2 := (hI.2.2.2.1 (hno (by omega)).1).lt
            have hno12 := hno (by omega)
            obtain ⟨v', w', hr, ho', hg', hnil, hat⟩ := run_append_own_at (P := Try.prog) W w.heap.size 22 22 23 i0 (.slice none 0 0) 1 24 Try.underlying22 ji0 jz0 jz1 jz2 rfl (by omega) (.slice (some ⟨g, 0, none⟩) k c) k xs ho ⟨Y, 0, none⟩ 1 1 [.slice A1 n1 c1] rfl (fun j u hu => by
              have hj : j = 0 := by
                rcases j with _ | j
                · rfl
                · simp at hu
              subst hj
              simp only [List.getElem?_cons_zero, Option.some.injEq] at hu
              rw [← hu, add_at]; exact hc) (by simp [Value.oneCell']) (by unfold maxLen; omega) (by omega) (by omega)
            have hne : v' ≠ .slice none 0 0 := fun hv => by have := (hnil.1 hv).1; simp at this
            have ho2 := ho'
            obtain ⟨hl', h2⟩ := ho'
            rcases h2 with ⟨hv, _⟩ | ⟨g', cap', cur, hv, hb', hgg', _⟩
            · exact absurd hv hne
            subst hv
            have hat : g' = g ∨ g' = W.heap.size := by simpa [Value.ownBlock] using hat
            have hg' : W.grownBy w' (some g) := hg'
            have hD6 := DLs.put (by omega) hx l1.2 r1 ho2 (by omega) hg'
            obtain ⟨q', hR', hq'⟩ := hI.2.1
            have HL6 := lens6_add (f1 := f1) hL.out l1.1
            refine wpOp_value rfl rfl (w' := w') (v := .slice (some ⟨g', 0, none⟩) (k + 1) cap') ?_ (hI.step (i := 12) (by omega) hs14 (GB.grown hg' (.inr rfl)) (fun x => by rw [hno12.1, hno12.2] at x; simp at x) ⟨q', hR'.gr hg' (by omega), by rw [getD_set_ne false (by omega)]; exact hq'⟩ (gb_new hI.2.2.1 hg' (by omega)) (fun e => by rw [getD_same (by omega)] at e; cases e) ⟨g', cap', _, rfl, HL6, hD6⟩)
            have f0 := ev f0
            have f11 := ev f11
            clear hF hall hno
            simp [execOp, resolve, invoke, builtin, Act.eval, f0, f11, hr, Result.andThen]
          · obtain ⟨g', c', D', f12, hl6, hd6⟩ : ∃ g' c' D', a.eval (.tmp 49) = .slice (some ⟨g', 0, none⟩) (k + 1) c' ∧ lens6 D' (k + 1) ∧ DLs W 23 w.heap.size g' (k + 1) c' D' := hF 12 (by omega) (hall ⟨12, .data⟩ (by simp) rfl)
            refine wpOp_value rfl rfl (w' := W) (v := .slice (some ⟨g', 0, none⟩) (k + 1) c') ?_ (hI.same (i := 13) (by omega) hs14 (by omega) ⟨g', c', D', rfl, hl6, hd6⟩)
            simp [execOp, f12]
      · have d1 : (v == 0) = false := beq_eq_false_iff_ne.2 hv
        clear hv
        go_wp2
        go_ret
        exact ⟨g, k, c, D, q + 1, rfl, by omega, hL.out, HD.out, hR2.out, by omega, HG.out⟩
end Go.Proofs.Ytanfhgliilkhjaa
