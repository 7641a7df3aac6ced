/-
  The walk of FnPaths.
-/
import Derived.Test.YtjppkcfbhhjniaaPathOrL
import Derived.Test.YtjppkcfbhhjniaaPathSel
import Derived.Test.YtjppkcfbhhjniaaDrawPx
import Derived.Test.YtjppkcfbhhjniaaLawPa
import Derived.Test.YtjppkcfbhhjniaaVx
namespace Go.Proofs.Ytjppkcfbhhjniaa
open Go.RowKit Go.Deep
set_option linter.unusedVariables false
set_option linter.unusedSimpArgs false
set_option maxRecDepth 100000 in
set_option maxHeartbeats 8000000 in
theorem y_FnPaths (a0 : Option Addr) (len0 cap0 : Nat) (a1 : Option Addr) (len1 cap1 : Nat) (w : World) (hA : BytesAt w.heap.size w a0 len0) (hl : len0 ≤ 1048576) (hc : len0 ≤ cap0) (hm : cap0 ≤ 9223372036854775807) (hl1 : len1 ≤ 1048576) :
    Calls Try.prog 8 #[.slice a0 len0 cap0, .slice a1 len1 cap1] w fun e w' => e = .returned (.bool true) ∧ Below w.heap.size w w' := by
  have hAH := Lib.hid hA
  have hd0 : decide ((1048576 : Int) < (len0 : Int)) = false := by simp; omega
  have hd1 : decide ((1048576 : Int) < (len1 : Int)) = false := by simp; omega
  obtain ⟨p0, pi0, pz0, pz1, pz2⟩ := info_parts pathInfo
  have PI := Lib.hid (And.intro pi0 (And.intro pz0 (And.intro pz1 pz2)))
  clear hA pi0 pz0 pz1 pz2
  go_enter Try.func8, Try.ntmps8
  go_wp2_with fail
  refine (d_DrawPathsValid a0 len0 cap0 w hAH.out hl hc hm).mono ?_
  rintro e wb ⟨n, g, m, c, D, rfl, hn, hm10, hD, hp, hb⟩
  clear hc hm hAH hl hd0 hd1
  have HB := Lib.hid hb
  have P0 := Lib.hid hp
  clear hb hp
  obtain ⟨pv, hpv⟩ : ∃ b, pathsV n D m = b := ⟨_, rfl⟩
  have iv := fun (W : World) (A : Option Addr) (c : Nat) (h : PsRn W W.heap.size A m D) => iPathsV A m c D n W h (by omega)
  have sv := fun (W : World) (A : Option Addr) (c : Nat) (h : PsRn W W.heap.size A m D) => sPathsV A m c D n W h (by omega)
  rw [hpv] at iv sv
  have IV := Lib.hid iv
  have SV := Lib.hid sv
  have HPV := Lib.hid hpv
  clear iv sv hpv
  go_wp2_with fail
  refine (IV.out _ _ _ P0.out).mono ?_
  rintro e w1 ⟨rfl, hb1⟩
  have P1 := Lib.hid (P0.out.topb hb1)
  have HB1 := Lib.hid (bl HB.out (Nat.le_refl _) hb1)
  clear hb1 HB P0 IV
  go_wp2_with fail
  refine (SV.out _ _ _ P1.out).mono ?_
  rintro e w2 ⟨rfl, hb2⟩
  have P2 := Lib.hid (P1.out.topb hb2)
  have HB2 := Lib.hid (bl HB1.out (Nat.le_refl _) hb2)
  clear hb2 HB1 P1 SV
  cases pv
  · clear HPV P2
    go_wp2
    go_ret
    exact ⟨rfl, HB2.out⟩
  have PV := HPV
  clear HPV
  have hm8 : m ≤ 8 := (pathsV_iff.1 PV.out).2.2.1
  have V0 := Vw.new0 w2 31 w2.heap.size (fun i => D (m - 1 - i)) (Nat.le_refl _)
  have B0 : Below w2.heap.size w2 (w2.alloc (.cells #[] 31)) := by go_grown
  go_wp2_with fail
  go_loopw [10, 11] (fun v i wr => ∃ (j k gB cB : Nat), j + k = m ∧ i = .int .i64 ((j : Int) - 1) ∧ v = .slice (some ⟨gB, 0, none⟩) k cB ∧ Vw wr 31 w2.heap.size gB k cB (fun i => D (m - 1 - i)) ∧ Below w2.heap.size w2 wr) (fun _ i _ => (intOf i + 1).toNat)
  case atStart => exact ⟨m, 0, _, _, rfl, rfl, rfl, V0, B0⟩
  case round =>
    clear V0 B0
    obtain ⟨j, k, gB, cB, hjk, hi, rfl, hV, hb⟩ := hrel
    have hsz := hb.size
    have P4 := Lib.hid (P2.out.topb hb)
    rcases j with _ | j
    · obtain rfl : k = m := by omega
      obtain rfl : _ = Value.int .i64 (-1) := hi
      have HBZ := Lib.hid (bl HB2.out (Nat.le_refl _) hb)
      have BZ := Lib.hid hV.rn
      have PZ := P4
      clear hV hb P4 P2 HB2
      obtain ⟨t2, ht2⟩ : ∃ t, len1 % (k + 1) = t := ⟨_, rfl⟩
      have htk : t2 ≤ k := by rw [← ht2]; exact Nat.lt_succ_iff.1 (Nat.mod_lt _ (by omega))
      have hx1 : (len1 : Int) % ((k : Int) + 1) = (t2 : Int) := by rw [← ht2, show ((k : Int) + 1) = ((k + 1 : Nat) : Int) by omega]; exact (Int.natCast_emod len1 (k + 1)).symm
      have hx2 : Int.tmod (len1 : Int) ((k : Int) + 1) = (t2 : Int) := by rw [Int.tmod_eq_emod_of_nonneg (by omega)]; exact hx1
      have hw1 : IntKind.i64.wrap ((k : Int) + 1) = (k : Int) + 1 := IntWalk.i64_in _ (by omega)
      have vl := fun (W : World) (A : Option Addr) (c : Nat) (h : PsRn W W.heap.size A t2 D) => iPathsV A t2 c D n W h (by omega)
      rw [pathsV_sel PV.out (E := D) (p := t2) (fun i => i) htk (fun _ _ => rfl) (fun i hi => by show i < k; omega) (fun i j _ _ h => h)] at vl
      have vr := fun (W : World) (A : Option Addr) (c : Nat) (h : PsRn W W.heap.size A k (fun i => D (k - 1 - i))) => iPathsV A k c (fun i => D (k - 1 - i)) n W h (by omega)
      rw [revD_valid PV.out] at vr
      have VL := Lib.hid vl
      have VR := Lib.hid vr
      have jt : (t2 : Int) ≤ (c : Int) := by omega
      have jt0 : (0 : Int) ≤ (t2 : Int) := by omega
      clear vl vr ht2
      by_cases hm0 : 0 < k
      rotate_left
      · have dm : decide ((0 : Int) < (k : Int)) = false := decide_eq_false (by omega)
        have hm1 : k ≤ 0 := by omega
        clear hm0
        go_wp2_with fail
        refine wp_region_any (by kernel_rfl) ?_
        (try (change wpAny _ _ _ _ _ _ _ (World.drew _)))
        refine wpAny_take (i := 0) (v := .int .i64 (k : Int)) rfl (by kernel_rfl) (by kernel_rfl) (by kernel_rfl) (fun _ _ _ h => h) (Or.inl ⟨by rfl, by intro w; go_simp⟩) ?_
        simp only [Act.put, List.getElem_toArray, List.getElem_cons_zero, List.getElem_cons_succ, List.setIfInBounds_toArray, List.set_cons_zero, List.set_cons_succ]
        refine wpAny_take (i := 1) (v := .bool false) rfl (by kernel_rfl) (by kernel_rfl) (by kernel_rfl) (fun _ _ _ h => h) (Or.inl ⟨by rfl, by intro w; go_simp⟩) ?_
        simp only [Act.put, List.getElem_toArray, List.getElem_cons_zero, List.getElem_cons_succ, List.setIfInBounds_toArray, List.set_cons_zero, List.set_cons_succ]
        refine wpAny_take (i := 2) (v := .bool false) rfl (by kernel_rfl) (by kernel_rfl) (by kernel_rfl) (fun _ _ _ h => h) (Or.inl ⟨by rfl, by intro w; go_simp⟩) ?_
        simp only [Act.put, List.getElem_toArray, List.getElem_cons_zero, List.getElem_cons_succ, List.setIfInBounds_toArray, List.set_cons_zero, List.set_cons_succ]
        refine wpAny_take (i := 3) (v := undef) rfl (by kernel_rfl) (by kernel_rfl) (by kernel_rfl) (fun _ _ _ h => h) (Or.inr ⟨by rfl, rfl⟩) ?_
        simp only [Act.put, List.getElem_toArray, List.getElem_cons_zero, List.getElem_cons_succ, List.setIfInBounds_toArray, List.set_cons_zero, List.set_cons_succ]
        refine wpAny_take (i := 4) (v := undef) rfl (by kernel_rfl) (by kernel_rfl) (by kernel_rfl) (fun _ _ _ h => h) (Or.inr ⟨by rfl, rfl⟩) ?_
        simp only [Act.put, List.getElem_toArray, List.getElem_cons_zero, List.getElem_cons_succ, List.setIfInBounds_toArray, List.set_cons_zero, List.set_cons_succ]
        refine wpAny_take (i := 5) (v := undef) rfl (by kernel_rfl) (by kernel_rfl) (by kernel_rfl) (fun _ _ _ h => h) (Or.inr ⟨by rfl, rfl⟩) ?_
        simp only [Act.put, List.getElem_toArray, List.getElem_cons_zero, List.getElem_cons_succ, List.setIfInBounds_toArray, List.set_cons_zero, List.set_cons_succ]
        refine wpAny_take (i := 6) (v := undef) rfl (by kernel_rfl) (by kernel_rfl) (by kernel_rfl) (fun _ _ _ h => h) (Or.inr ⟨by rfl, rfl⟩) ?_
        simp only [Act.put, List.getElem_toArray, List.getElem_cons_zero, List.getElem_cons_succ, List.setIfInBounds_toArray, List.set_cons_zero, List.set_cons_succ]
        refine wpAny_take (i := 7) (v := undef) rfl (by kernel_rfl) (by kernel_rfl) (by kernel_rfl) (fun _ _ _ h => h) (Or.inr ⟨by rfl, rfl⟩) ?_
        simp only [Act.put, List.getElem_toArray, List.getElem_cons_zero, List.getElem_cons_succ, List.setIfInBounds_toArray, List.set_cons_zero, List.set_cons_succ]
        refine wpAny_take (i := 8) (v := undef) rfl (by kernel_rfl) (by kernel_rfl) (by kernel_rfl) (fun _ _ _ h => h) (Or.inr ⟨by rfl, rfl⟩) ?_
        simp only [Act.put, List.getElem_toArray, List.getElem_cons_zero, List.getElem_cons_succ, List.setIfInBounds_toArray, List.set_cons_zero, List.set_cons_succ]
        refine wpAny_take (i := 9) (v := undef) rfl (by kernel_rfl) (by kernel_rfl) (by kernel_rfl) (fun _ _ _ h => h) (Or.inr ⟨by rfl, rfl⟩) ?_
        simp only [Act.put, List.getElem_toArray, List.getElem_cons_zero, List.getElem_cons_succ, List.setIfInBounds_toArray, List.set_cons_zero, List.set_cons_succ]
        refine wpAny_take (i := 10) (v := undef) rfl (by kernel_rfl) (by kernel_rfl) (by kernel_rfl) (fun _ _ _ h => h) (Or.inr ⟨by rfl, rfl⟩) ?_
        simp only [Act.put, List.getElem_toArray, List.getElem_cons_zero, List.getElem_cons_succ, List.setIfInBounds_toArray, List.set_cons_zero, List.set_cons_succ]
        refine wpAny_take (i := 11) (v := undef) rfl (by kernel_rfl) (by kernel_rfl) (by kernel_rfl) (fun _ _ _ h => h) (Or.inr ⟨by rfl, rfl⟩) ?_
        simp only [Act.put, List.getElem_toArray, List.getElem_cons_zero, List.getElem_cons_succ, List.setIfInBounds_toArray, List.set_cons_zero, List.set_cons_succ]
        refine wpAny_take (i := 12) (v := undef) rfl (by kernel_rfl) (by kernel_rfl) (by kernel_rfl) (fun _ _ _ h => h) (Or.inr ⟨by rfl, rfl⟩) ?_
        simp only [Act.put, List.getElem_toArray, List.getElem_cons_zero, List.getElem_cons_succ, List.setIfInBounds_toArray, List.set_cons_zero, List.set_cons_succ]
        refine wpAny_take (i := 13) (v := undef) rfl (by kernel_rfl) (by kernel_rfl) (by kernel_rfl) (fun _ _ _ h => h) (Or.inr ⟨by rfl, rfl⟩) ?_
        simp only [Act.put, List.getElem_toArray, List.getElem_cons_zero, List.getElem_cons_succ, List.setIfInBounds_toArray, List.set_cons_zero, List.set_cons_succ]
        refine wpAny_take (i := 14) (v := undef) rfl (by kernel_rfl) (by kernel_rfl) (by kernel_rfl) (fun _ _ _ h => h) (Or.inr ⟨by rfl, rfl⟩) ?_
        simp only [Act.put, List.getElem_toArray, List.getElem_cons_zero, List.getElem_cons_succ, List.setIfInBounds_toArray, List.set_cons_zero, List.set_cons_succ]
        refine wpAny_take (i := 15) (v := undef) rfl (by kernel_rfl) (by kernel_rfl) (by kernel_rfl) (fun _ _ _ h => h) (Or.inr ⟨by rfl, rfl⟩) ?_
        simp only [Act.put, List.getElem_toArray, List.getElem_cons_zero, List.getElem_cons_succ, List.setIfInBounds_toArray, List.set_cons_zero, List.set_cons_succ]
        refine wpAny_take (i := 16) (v := undef) rfl (by kernel_rfl) (by kernel_rfl) (by kernel_rfl) (fun _ _ _ h => h) (Or.inr ⟨by rfl, rfl⟩) ?_
        simp only [Act.put, List.getElem_toArray, List.getElem_cons_zero, List.getElem_cons_succ, List.setIfInBounds_toArray, List.set_cons_zero, List.set_cons_succ]
        refine wpAny_take (i := 17) (v := .bool false) rfl (by kernel_rfl) (by kernel_rfl) (by kernel_rfl) (fun _ _ _ h => h) (Or.inl ⟨by rfl, by intro w; go_simp⟩) ?_
        simp only [Act.put, List.getElem_toArray, List.getElem_cons_zero, List.getElem_cons_succ, List.setIfInBounds_toArray, List.set_cons_zero, List.set_cons_succ]
        refine wpAny_done (by kernel_rfl) ?_ _
        have NB : Below wr.heap.size wr wr.drew := by go_grown
        generalize wr.drew = w7 at *
        have P7 := Lib.hid (PZ.out.topb NB)
        have B7 := Lib.hid (BZ.out.topb NB)
        have HB7 := Lib.hid (bl HBZ.out (Nat.le_refl _) NB)
        have PL := Lib.hid (P7.out.less (show t2 ≤ k by omega))
        clear NB PZ BZ HBZ
        go_wp2_with fail
        refine (VL.out _ _ _ PL.out).mono ?_
        rintro e w8 ⟨rfl, hb8⟩
        have B8 := Lib.hid (B7.out.topb hb8)
        have HB8 := Lib.hid (bl HB7.out (Nat.le_refl _) hb8)
        clear hb8 P7 B7 HB7 PL
        go_wp2_with fail
        refine (VR.out _ _ _ B8.out).mono ?_
        rintro e w9 ⟨rfl, hb9⟩
        have HB9 := Lib.hid (bl HB8.out (Nat.le_refl _) hb9)
        clear hb9 B8 HB8
        go_wp2
        go_ret
        exact ⟨rfl, HB9.out⟩
      have dm : decide ((0 : Int) < (k : Int)) = true := decide_eq_true (by omega)
      have dk : ((k : Int) == 0) = false := beq_eq_false_iff_ne.2 (by omega)
      have dk2 : ¬ k = 0 := by omega
      obtain ⟨tt, htt⟩ : ∃ tt, len1 % k = tt := ⟨_, rfl⟩
      have htm : tt < k := by rw [← htt]; exact Nat.mod_lt _ (by omega)
      have hx3 : (len1 : Int) % (k : Int) = (tt : Int) := by rw [← htt]; exact (Int.natCast_emod len1 k).symm
      have hx4 : Int.tmod (len1 : Int) (k : Int) = (tt : Int) := by rw [Int.tmod_eq_emod_of_nonneg (by omega)]; exact hx3
      obtain ⟨b1, l1, b2, l2, n1, f1, n2, f2, hD1, x0, x1, r1, r2⟩ := psRn_at0 PZ.out htm
      obtain ⟨xs1, vc1, cc1⟩ := PZ.out.row
      have VC1 := Lib.hid vc1
      have CC1 := Lib.hid cc1
      have one1 := Lib.hid vc1.one
      have hl1 := vc1.1
      have VL1 := Lib.hid (VwC.path (c1 := l1) (c2 := l2) r1 r2)
      have vt := fun (W : World) (A : Option Addr) (c : Nat) (h : PsRn W W.heap.size A (k + 1) (fun i => if i < k then D i else ⟨n1, f1, n2, f2⟩)) => iPathsV A (k + 1) c (fun i => if i < k then D i else ⟨n1, f1, n2, f2⟩) n W h (by omega)
      rw [pathsV_twice PV.out htm (E := fun i => if i < k then D i else ⟨n1, f1, n2, f2⟩) (fun i hi => if_pos hi) (by rw [if_neg (by omega), hD1])] at vt
      have VT := Lib.hid vt
      have lgz : g < wr.heap.size := by obtain ⟨b, off, e, hbb, _⟩ := PZ.out (by omega); simp only [Option.some.injEq, Addr.mk.injEq, and_true] at e; omega
      have t0 : (0 : Int) ≤ (tt : Int) := by omega
      have t1 : (tt : Int) < (k : Int) := by omega
      have o1 : (wr.alloc (.cells #[] 31)).ownsRow wr.heap.size 31 2 (.slice (some ⟨wr.heap.size, 0, none⟩) 0 0) 0 [] := World.ownsRow_made (base := wr.heap.size) (size := 2) (e := 31) wr #[] 0 (Nat.le_refl _) (by unfold maxLen; omega) (by simp)
      have O1 := Lib.hid o1
      have O2 := Lib.hid (o1.alloc (.cells #[.slice b1 n1 l1, .slice b2 n2 l2] 31))
      have o3 : ((wr.alloc (.cells #[.slice b1 n1 l1, .slice b2 n2 l2] 31)).alloc (.cells #[] 31)).ownsRow wr.heap.size 31 2 (.slice (some ⟨(wr.alloc (.cells #[.slice b1 n1 l1, .slice b2 n2 l2] 31)).heap.size, 0, none⟩) 0 0) 0 [] := World.ownsRow_made (base := wr.heap.size) (size := 2) (e := 31) (wr.alloc (.cells #[.slice b1 n1 l1, .slice b2 n2 l2] 31)) #[] 0 (by simp) (by unfold maxLen; omega) (by simp)
      rw [World.size_alloc] at o3
      have O3 := Lib.hid o3
      have hn1 : Below wr.heap.size wr (wr.alloc (.cells #[] 31)).drew := by go_grown
      have hn2 : Below wr.heap.size wr ((wr.alloc (.cells #[] 31)).alloc (.cells #[.slice b1 n1 l1, .slice b2 n2 l2] 31)).drew := by go_grown
      have hn3 : Below wr.heap.size wr ((wr.alloc (.cells #[.slice b1 n1 l1, .slice b2 n2 l2] 31)).alloc (.cells #[] 31)).drew := by go_grown
      have HN1 := Lib.hid hn1
      have HN2 := Lib.hid hn2
      have HN3 := Lib.hid hn3
      have LT2 : Hid (((wr.alloc (.cells #[] 31)).alloc (.cells #[.slice b1 n1 l1, .slice b2 n2 l2] 31)).heap[wr.heap.size + 1]? = some (.cells #[.slice b1 n1 l1, .slice b2 n2 l2] 31)) := by have := heap_alloc_new (wr.alloc (.cells #[] 31)) (.cells #[.slice b1 n1 l1, .slice b2 n2 l2] 31); rwa [World.size_alloc] at this
      have LT3 : Hid (((wr.alloc (.cells #[.slice b1 n1 l1, .slice b2 n2 l2] 31)).alloc (.cells #[] 31)).heap[wr.heap.size]? = some (.cells #[.slice b1 n1 l1, .slice b2 n2 l2] 31)) := (blk_alloc_lt _ _ _ (by simp)).trans (heap_alloc_new wr (.cells #[.slice b1 n1 l1, .slice b2 n2 l2] 31))
      obtain ⟨pi0, pz0, pz1, pz2⟩ := PI.out
      clear vc1 cc1 r1 r2 vt htt o1 o3 hn1 hn2 hn3 hD1
      go_wp2_with fail
      go_region_held3 (fun V => V.cell? ⟨g, tt * 2, none⟩ = some (.slice b1 n1 l1) ∧ V.cell? ⟨g, tt * 2 + 1, none⟩ = some (.slice b2 n2 l2)) (go_keep)
        (first
          | ((refine step_app (by rfl) _ _ _ (by rfl) wr.heap.size 31 p0 (.agg #[.slice none 0 0, .slice none 0 0]) 2 48 Try.underlying23 pi0 pz0 pz1 pz2 (by rfl) (by omega) wr.heap.size 0 0 [] (by rfl) O1.out ⟨g, 0, none⟩ k c xs1 (by rfl) hl1 (fun j u h => by have hu := CC1.out j u h; rw [add_at] at hu ⊢; exact ((HN1.out).cell (p := ⟨g, 0 + j, none⟩) lgz).trans hu) one1.out (by unfold maxLen; omega) (by omega) (HN1.out).size (wr.heap.size + 1) (by simp) k (by omega) ?_); intro gA cA wA OA GA hgA1 hgA2; have NA : Below wr.heap.size wr wA := gb_bl (HN1.out) (HN1.out).size (Nat.le_refl _) GA; have gsA := NA.size; have z0 := (NA.cell (p := ⟨g, tt * 2, none⟩) lgz).trans x0; have z1 := (NA.cell (p := ⟨g, tt * 2 + 1, none⟩) lgz).trans x1; clear GA)
          | ((refine step_app (by rfl) _ _ _ (by rfl) wr.heap.size 31 p0 (.agg #[.slice none 0 0, .slice none 0 0]) 2 48 Try.underlying23 pi0 pz0 pz1 pz2 (by rfl) (by omega) wr.heap.size 0 0 [] (by rfl) O2.out ⟨g, 0, none⟩ k c xs1 (by rfl) hl1 (fun j u h => by have hu := CC1.out j u h; rw [add_at] at hu ⊢; exact ((HN2.out).cell (p := ⟨g, 0 + j, none⟩) lgz).trans hu) one1.out (by unfold maxLen; omega) (by omega) (HN2.out).size (wr.heap.size + 1 + 1) (by simp) k (by omega) ?_); intro gA cA wA OA GA hgA1 hgA2; have NA : Below wr.heap.size wr wA := gb_bl (HN2.out) (HN2.out).size (Nat.le_refl _) GA; have gsA := NA.size; have LA := World.news_of_block (cs := #[.slice b1 n1 l1, .slice b2 n2 l2]) (t := 31) (fr := (0, 0)) ((GA.block (wr.heap.size + 1) (by simp) (fun e => by injection e; omega)).trans LT2.out); have z0 := (NA.cell (p := ⟨g, tt * 2, none⟩) lgz).trans x0; have z1 := (NA.cell (p := ⟨g, tt * 2 + 1, none⟩) lgz).trans x1; clear GA)
          | ((refine step_app (by rfl) _ _ _ (by rfl) wr.heap.size 31 p0 (.agg #[.slice none 0 0, .slice none 0 0]) 2 48 Try.underlying23 pi0 pz0 pz1 pz2 (by rfl) (by omega) (wr.heap.size + 1) 0 0 [] (by rfl) O3.out ⟨g, 0, none⟩ k c xs1 (by rfl) hl1 (fun j u h => by have hu := CC1.out j u h; rw [add_at] at hu ⊢; exact ((HN3.out).cell (p := ⟨g, 0 + j, none⟩) lgz).trans hu) one1.out (by unfold maxLen; omega) (by omega) (HN3.out).size (wr.heap.size + 1 + 1) (by simp) k (by omega) ?_); intro gA cA wA OA GA hgA1 hgA2; have NA : Below wr.heap.size wr wA := gb_bl (HN3.out) (HN3.out).size (Nat.le_succ _) GA; have gsA := NA.size; have LA := World.news_of_block (cs := #[.slice b1 n1 l1, .slice b2 n2 l2]) (t := 31) (fr := (0, 0)) ((GA.block wr.heap.size (by simp; omega) (fun e => by injection e; omega)).trans LT3.out); have z0 := (NA.cell (p := ⟨g, tt * 2, none⟩) lgz).trans x0; have z1 := (NA.cell (p := ⟨g, tt * 2 + 1, none⟩) lgz).trans x1; clear GA)
          | ((refine step_app (by rfl) _ _ _ (by rfl) wr.heap.size 31 p0 (.agg #[.slice none 0 0, .slice none 0 0]) 2 48 Try.underlying23 pi0 pz0 pz1 pz2 (by rfl) (by omega) gA cA k ([] ++ xs1) (by rfl) (OA.alloc (.cells #[.slice b1 n1 l1, .slice b2 n2 l2] 31)) ⟨wA.heap.size, 0, none⟩ 1 1 [.slice b1 n1 l1, .slice b2 n2 l2] (by rfl) (by rfl) (World.news_of_block (cs := #[.slice b1 n1 l1, .slice b2 n2 l2]) (t := 31) (fr := (0, 0)) (heap_alloc_new wA _)) (one2 _ _ _ _ _ _) (by unfold maxLen; omega) (by omega) (NA.alloc gsA (.cells #[.slice b1 n1 l1, .slice b2 n2 l2] 31)).size (wA.heap.size + 1) (by first | rfl | simp) (k + 1) (by omega) ?_); intro gB2 cB2 wB OB GB hgB1 hgB2; have NB : Below wr.heap.size wr wB := gb_bl (NA.alloc gsA (.cells #[.slice b1 n1 l1, .slice b2 n2 l2] 31)) (NA.alloc gsA (.cells #[.slice b1 n1 l1, .slice b2 n2 l2] 31)).size (by omega) GB; have PB := Lib.hid (Vw.app VC1.out VL1.out (by simpa only [List.nil_append] using OB) (fun b hb => NB.block b hb)).rn; have z0 := (NB.cell (p := ⟨g, tt * 2, none⟩) lgz).trans x0; have z1 := (NB.cell (p := ⟨g, tt * 2 + 1, none⟩) lgz).trans x1; clear GB)
          | ((refine step_app (by rfl) _ _ _ (by rfl) wr.heap.size 31 p0 (.agg #[.slice none 0 0, .slice none 0 0]) 2 48 Try.underlying23 pi0 pz0 pz1 pz2 (by rfl) (by omega) gA cA k ([] ++ xs1) (by rfl) OA ⟨(wr.heap.size + 1), 0, none⟩ 1 1 [.slice b1 n1 l1, .slice b2 n2 l2] (by rfl) (by rfl) LA (one2 _ _ _ _ _ _) (by unfold maxLen; omega) (by omega) (NA).size wA.heap.size (by first | rfl | simp) (k + 1) (by omega) ?_); intro gB2 cB2 wB OB GB hgB1 hgB2; have NB : Below wr.heap.size wr wB := gb_bl (NA) (NA).size (by omega) GB; have PB := Lib.hid (Vw.app VC1.out VL1.out (by simpa only [List.nil_append] using OB) (fun b hb => NB.block b hb)).rn; have z0 := (NB.cell (p := ⟨g, tt * 2, none⟩) lgz).trans x0; have z1 := (NB.cell (p := ⟨g, tt * 2 + 1, none⟩) lgz).trans x1; clear GB)
          | ((refine step_app (by rfl) _ _ _ (by rfl) wr.heap.size 31 p0 (.agg #[.slice none 0 0, .slice none 0 0]) 2 48 Try.underlying23 pi0 pz0 pz1 pz2 (by rfl) (by omega) gA cA k ([] ++ xs1) (by rfl) OA ⟨wr.heap.size, 0, none⟩ 1 1 [.slice b1 n1 l1, .slice b2 n2 l2] (by rfl) (by rfl) LA (one2 _ _ _ _ _ _) (by unfold maxLen; omega) (by omega) (NA).size wA.heap.size (by first | rfl | simp) (k + 1) (by omega) ?_); intro gB2 cB2 wB OB GB hgB1 hgB2; have NB : Below wr.heap.size wr wB := gb_bl (NA) (NA).size (by omega) GB; have PB := Lib.hid (Vw.app VC1.out VL1.out (by simpa only [List.nil_append] using OB) (fun b hb => NB.block b hb)).rn; have z0 := (NB.cell (p := ⟨g, tt * 2, none⟩) lgz).trans x0; have z1 := (NB.cell (p := ⟨g, tt * 2 + 1, none⟩) lgz).trans x1; clear GB)
          | (go_at_call 27; refine (VT.out _ _ _ PB.out).mono ?_; rintro e w7 ⟨rfl, hn7⟩; have NB7 : Below wr.heap.size wr w7 := bl NB (Nat.le_refl _) hn7; have z0 := (NB7.cell (p := ⟨g, tt * 2, none⟩) lgz).trans x0; have z1 := (NB7.cell (p := ⟨g, tt * 2 + 1, none⟩) lgz).trans x1))
      all_goals
        have NB := NB7
        clear NB7
        have P7 := Lib.hid (PZ.out.topb NB)
        have B7 := Lib.hid (BZ.out.topb NB)
        have HB7 := Lib.hid (bl HBZ.out (Nat.le_refl _) NB)
        have PL := Lib.hid (P7.out.less (show t2 ≤ k by omega))
        clear NB PZ BZ HBZ
        go_wp2_with fail
        refine (VL.out _ _ _ PL.out).mono ?_
        rintro e w8 ⟨rfl, hb8⟩
        have B8 := Lib.hid (B7.out.topb hb8)
        have HB8 := Lib.hid (bl HB7.out (Nat.le_refl _) hb8)
        clear hb8 P7 B7 HB7 PL
        go_wp2_with fail
        refine (VR.out _ _ _ B8.out).mono ?_
        rintro e w9 ⟨rfl, hb9⟩
        have HB9 := Lib.hid (bl HB8.out (Nat.le_refl _) hb9)
        clear hb9 B8 HB8
        go_wp2
        go_ret
        exact ⟨rfl, HB9.out⟩
    · rw [show ((j + 1 : Nat) : Int) - 1 = (j : Int) by omega] at hi
      subst hi
      have hjm : j < m := by omega
      obtain ⟨a1, k1, a2, k2, n1, f1, n2, f2, hD1, x0, x1, r1, r2⟩ := psRn_at0 P2.out hjm
      have lg : g < w2.heap.size := by obtain ⟨b, off, e, hbb, _⟩ := P2.out (by omega); simp only [Option.some.injEq, Addr.mk.injEq, and_true] at e; omega
      have x0 := (hb.cell (p := ⟨g, j * 2, none⟩) lg).trans x0
      have x1 := (hb.cell (p := ⟨g, j * 2 + 1, none⟩) lg).trans x1
      have j0 : (0 : Int) ≤ (j : Int) := by omega
      have j1 : (j : Int) < (m : Int) := by omega
      have hlt := hV.lt
      obtain ⟨xs, ho, hx⟩ := hV
      have hcp := owns_cap ho
      have HO := Lib.hid (ho.alloc (.cells #[.slice a1 n1 k1, .slice a2 n2 k2] 31))
      have HX := Lib.hid (hx.keep (w' := wr) (fun _ _ => rfl))
      have R1 := Lib.hid (r1.below hb)
      have R2 := Lib.hid (r2.below hb)
      have HBw := Lib.hid hb
      obtain ⟨pi0, pz0, pz1, pz2⟩ := PI.out
      clear ho hx r1 r2 hb P4
      go_wp2_with (at_builtin; refine wpList_append_lies _ rfl _ _ _ rfl w2.heap.size 31 p0 (.agg #[.slice none 0 0, .slice none 0 0]) 2 48 Try.underlying23 pi0 pz0 pz1 pz2 rfl (by omega) (.slice (some ⟨gB, 0, none⟩) k cB) k xs rfl HO.out ⟨wr.heap.size, 0, none⟩ 1 1 [.slice a1 n1 k1, .slice a2 n2 k2] rfl rfl ?d1 (one2 _ _ _ _ _ _) (by omega) ?d3 ?d4 ?d5 (wr.heap.size + 1) ?d6 ?_)
      try case d1 => exact World.news_of_block (cs := #[.slice a1 n1 k1, .slice a2 n2 k2]) (t := 31) (fr := (0, 0)) (heap_alloc_new wr _)
      case d3 => unfold maxLen; omega
      case d4 => omega
      case d5 => first | omega | (simp; omega)
      try case d6 => simp
      intro g6 k6 w6 hown6 hg6 hat6 hlt6
      have hg6 : (wr.alloc (.cells #[.slice a1 n1 k1, .slice a2 n2 k2] 31)).grownBy w6 (some gB) := hg6
      have hV6 := Vw.put HX.out R1.out R2.out hown6 (fun b hb' => (hg6.block b (by simp; omega) (fun e => by injection e; omega)).trans (blk_alloc_lt _ _ _ (by omega)))
      have hb6 : Below w2.heap.size w2 w6 := (show Below w2.heap.size w2 (wr.alloc (.cells #[.slice a1 n1 k1, .slice a2 n2 k2] 31)) from HBw.out.alloc hsz _).grown hg6 (by simp; omega) (fun k e => by injection e with e; omega)
      have HV6 := Lib.hid (hV6.congr (E := fun i => D (m - 1 - i)) fun i hi => by
        by_cases e : i = k
        · subst e; rw [addD_at, ← hD1]; congr 1; omega
        · rw [addD_lt (by omega)])
      have HB6 := Lib.hid hb6
      have hs6 := hb6.size
      clear hown6 hg6 hat6 hlt6 hV6 hb6 HO HX R1 R2 x0 x1 HBw pi0 pz0 pz1 pz2 hD1 hlt hcp
      go_wp2_with fail
      go_loopw [12] (fun i wq => ∃ t : Nat, t ≤ j ∧ i = .int .i64 t ∧ Below w6.heap.size w6 wq) (fun i _ => (j - intOf i).toNat)
      case atStart => exact ⟨0, Nat.zero_le _, rfl, Below.refl _ _⟩
      case round =>
        obtain ⟨t, ht, rfl, hbt⟩ := hrel
        by_cases htj : t < j
        · have P5 := Lib.hid (P2.out.topb (HB6.out.trans (hbt.mono hs6)))
          obtain ⟨b1, l1, b2, l2, n1, f1, n2, f2, hD1, x0, x1, r1, r2⟩ := psRn_at0 P5.out hjm
          obtain ⟨b3, l3, b4, l4, n3, f3, n4, f4, hD2, x2, x3, r3, r4⟩ := psRn_at0 P5.out (show t < m by omega)
          have lg5 : g < wr.heap.size := by have := hbt.size; omega
          have CL : Hid (clashL n ⟨n1, f1, n2, f2⟩ ⟨n3, f3, n4, f4⟩ = []) := by rw [← hD1, ← hD2]; exact pathsV_apart PV.out hjm (by omega) (by omega)
          have S1 := Lib.hid r1
          have S2 := Lib.hid r2
          have S3 := Lib.hid r3
          have S4 := Lib.hid r4
          have t0 : (0 : Int) ≤ (t : Int) := by omega
          have t1 : (t : Int) < (m : Int) := by omega
          clear r1 r2 r3 r4 hD1 hD2 P5
          go_wp2_with fail
          go_region_held3 (fun V => V.cell? ⟨g, j * 2, none⟩ = some (.slice b1 n1 l1) ∧ V.cell? ⟨g, j * 2 + 1, none⟩ = some (.slice b2 n2 l2) ∧ V.cell? ⟨g, t * 2, none⟩ = some (.slice b3 n3 l3) ∧ V.cell? ⟨g, t * 2 + 1, none⟩ = some (.slice b4 n4 l4)) (go_keep)
            (first | (go_at_call 34; refine (iPathClash b1 b2 b3 b4 n1 l1 n2 l2 n3 l3 n4 l4 f1 f2 f3 f4 n _ S1.out.topd S2.out.topd S3.out.topd S4.out.topd).mono ?_; rintro e w7 hres; rw [CL.out] at hres; obtain ⟨gg, cc, kk, rfl, rfl, hn1⟩ := intsRes_nil hres; have hn1 := undrew hn1; have z0 := (hn1.cell (p := ⟨g, j * 2, none⟩) lg5).trans x0; have z1 := (hn1.cell (p := ⟨g, j * 2 + 1, none⟩) lg5).trans x1; have z2 := (hn1.cell (p := ⟨g, t * 2, none⟩) lg5).trans x2; have z3 := (hn1.cell (p := ⟨g, t * 2 + 1, none⟩) lg5).trans x3; clear hres))
          have hb7 : Below w6.heap.size w6 w7 := bl hbt (Nat.le_refl _) hn1
          clear hbt hn1 z0 z1 z2 z3 x0 x1 x2 x3
          go_wp2
          go_roundw
          case rel => exact ⟨t + 1, by omega, by go_num, hb7⟩
          case measure => simp [intOf]; omega
        · obtain rfl : t = j := by omega
          have HVr := Lib.hid (HV6.out.call hbt)
          have HBr := Lib.hid (HB6.out.trans (hbt.mono hs6))
          clear hbt HV6 HB6
          go_wp2_with fail
          go_roundw
          case rel => exact ⟨t, k + 1, g6, k6, by omega, rfl, rfl, HVr.out, HBr.out⟩
          case measure => simp [intOf]
theorem w_FnPaths (a0 : Option Addr) (len0 cap0 : Nat) (z0 : List Int) (a1 : Option Addr) (len1 cap1 : Nat) (z1 : List Int) (w : World) (w0 : IsRow .u8 w a0 len0 cap0 z0) (w1 : IsRow .u8 w a1 len1 cap1 z1) :
    Calls Try.prog 8 #[.slice a0 len0 cap0, .slice a1 len1 cap1] w fun e w' => e = .returned (.bool true) ∧ Below w.heap.size w w' := by
  obtain ⟨hA, hc, hm⟩ := w0.bytes
  obtain ⟨hA1, hc1, hm1⟩ := w1.bytes
  by_cases hs0 : 1048576 < len0
  · have hd0 : decide ((1048576 : Int) < (len0 : Int)) = true := by simp; omega
    clear w0 hA w1 hA1
    go_enter Try.func8, Try.ntmps8
    go_wp2
    go_ret
    exact ⟨rfl, Below.refl _ _⟩
  by_cases hs1 : 1048576 < len1
  · have hd0 : decide ((1048576 : Int) < (len0 : Int)) = false := by simp; omega
    have hd1 : decide ((1048576 : Int) < (len1 : Int)) = true := by simp; omega
    clear w0 hA w1 hA1
    go_enter Try.func8, Try.ntmps8
    go_wp2
    go_ret
    exact ⟨rfl, Below.refl _ _⟩
  · exact y_FnPaths a0 len0 cap0 a1 len1 cap1 w hA (by omega) hc hm (by omega)
end Go.Proofs.Ytjppkcfbhhjniaa
