/-
  The walk of FnBookClear.
-/
import Derived.Test.YtanfhgliilkhjaaBkCl
import Derived.Test.YtanfhgliilkhjaaBkDW
import Derived.Deep.RegionHeld3
namespace Go.Proofs.Ytanfhgliilkhjaa
open Go.RowKit Go.Deep
set_option linter.unusedVariables false

theorem RingRes.rd {w w' : World} {ok : Bool} {xs : List Int} {e : Ending} (h : RingRes w ok xs e w') : ∃ g c : Nat, e = .returned (.tuple #[.slice (some ⟨g, 0, none⟩) xs.length c, .bool ok]) ∧ Rn w' w'.heap.size (some ⟨g, 0, none⟩) xs.length (fun i => xs.getD i 0) ∧ Below w.heap.size w w' := by
  obtain ⟨g, c, he, hg, ho, hb⟩ := h
  exact ⟨g, c, he, ho.rn hg.2, hb⟩
/-- In a clear book one code at most stands at a place. -/
theorem clear_one {E : LD} {D : Nat → LD} {m p i j : Nat} (h : clearV D m) (hi : i < m) (hj : j < m) (h1 : stAt E p (D i)) (h2 : stAt E p (D j)) : i = j := by
  rcases Nat.lt_trichotomy (D i).n (D j).n with x | x | x
  · exact absurd ⟨x, fun t ht => by rw [← h1.2 t ht, ← h2.2 t (by omega)]⟩ (h.2 i j hi hj)
  · rcases Nat.lt_trichotomy i j with y | y | y
    · exact absurd (stAt_same h1 h2 x) ((h.1.2 j hj).2 i y)
    · exact y
    · exact absurd (stAt_same h2 h1 x.symm) ((h.1.2 i hi).2 j y)
  · exact absurd ⟨x, fun t ht => by rw [← h1.2 t (by omega), ← h2.2 t ht]⟩ (h.2 j i hj hi)
theorem smW_one {e : LD} {D : Nat → LD} {m k t : Nat} {wy : Nat → Nat} (h : ∀ i, i < m → stAt e (e.n - k) (D i) → i = t) (hs : stAt e (e.n - k) (D t)) : ∀ i, i ≤ m → smW e D k wy i = if t < i then wy (k - max 1 (D t).n) else 0 := by
  intro i
  induction i with
  | zero => intro _; rfl
  | succ i ih =>
    intro hi
    show smW e D k wy i + _ = _
    rw [ih (by omega)]
    by_cases e1 : i = t
    · subst e1
      rw [if_neg (by omega), if_pos hs, if_pos (by omega)]; omega
    · rw [if_neg (fun x => e1 (h i (by omega) x))]
      by_cases e2 : t < i
      · rw [if_pos e2, if_pos (by omega)]; omega
      · rw [if_neg e2, if_neg (by omega)]
/-- A ring of a clear book has one reading. -/
theorem clear_parse {E : LD} {D : Nat → LD} {m : Nat} (hc : clearV D m) : ∀ (l : List Nat) (k : Nat), (∀ i ∈ l, i < m) → k ≤ E.n → rngL D l = lst (rst E k) k → l.length ≤ 900 → ways E D m k = 1 ∧ rdg E D m k = l := by
  have hD : ∀ i, i < m → 1 ≤ (D i).n := fun i hi => (hc.1.2 i hi).1.1.1
  intro l
  induction l with
  | nil =>
    intro k _ hk h _
    have : k = 0 := by have := congrArg List.length h; rw [lst_len] at this; simpa [rngL] using this.symm
    subst this
    exact ⟨rfl, rfl⟩
  | cons i l ih =>
    intro k hl hk h h9
    have h0 := h
    rw [rngL_cons] at h
    have hst := st_of hk h.symm
    obtain ⟨h1, h2⟩ := st_split hk hst
    have him := hl i (by simp)
    have hn := hD i him
    have h3 : rngL D l = lst (rst E (k - (D i).n)) (k - (D i).n) := by
      rw [h2] at h
      exact List.append_cancel_left h
    rw [List.length_cons] at h9
    obtain ⟨a1, a2⟩ := ih _ (fun j hj => hl j (by simp [hj])) (by omega) h3 (by omega)
    have hmx : max 1 (D i).n = (D i).n := by omega
    have hf := parse_few (E := E) hD (i :: l) k hl hk h0
    rw [List.length_cons] at hf
    constructor
    · rw [ways_pos (by omega), smW_one (t := i) (fun j hj hs => clear_one hc hj him hs hst) hst m (Nat.le_refl _), if_pos him, hmx]
      exact a1
    · obtain ⟨b1, b2, _, _⟩ := ix_spec (e := E) (D := D) (m := m) (k := k) (by omega) (by omega)
      have e := clear_one hc b1 him b2 hst
      rw [rdg_pos (by omega), e, hmx, a2]
/-- The facts of the plain law. -/
structure ClearF (D : Nat → LD) (m k l : Nat) where
  fl : Nat → Int
  h0 : fl 0 = (k : Int)
  h1 : fl 1 = (l : Int)
  vg : RingV D m 2 fl true (rng D fl 2)
  vr : ReadV (ofL (rng D fl 2)) D m true [(k : Int), (l : Int)]
  vw : ringB (ofL (rng D fl 2)) D m ∧ (1 : Int) = (ways (ofL (rng D fl 2)) D m (ofL (rng D fl 2)).n : Int)
  hx : (rng D fl 2).length ≤ 20
  hk : clearV D k
  hb : ¬ (codeV (D k) ∧ codeV (D l) ∧ begV (D k) (D l))
theorem clearF_ex {D : Nat → LD} {m k l : Nat} (hc : clearV D m) (hk : k < m) (hl : l < m) : Nonempty (ClearF D m k l) := by
  have hkc := (hc.1.2 k hk).1.1
  have hlc := (hc.1.2 l hl).1.1
  let fl : Nat → Int := fun i => if i = 0 then (k : Int) else (l : Int)
  have hr : rng D fl 2 = rngL D [k, l] := by
    show ([] ++ lst (D (fl 0).toNat).f (D (fl 0).toNat).n) ++ lst (D (fl 1).toNat).f (D (fl 1).toNat).n = _
    have e0 : (fl 0).toNat = k := rfl
    have e1 : (fl 1).toNat = l := rfl
    rw [e0, e1]
    simp [rngL]
  have hlen : (rng D fl 2).length ≤ 20 := by
    rw [hr]; simp only [rngL, List.flatMap_cons, List.flatMap_nil, List.length_append, lst_len, List.length_nil]; omega
  have hv : ringV D m 2 fl := ⟨hc.1, fun i hi => by
    have : i = 0 ∨ i = 1 := by omega
    rcases this with rfl | rfl
    · show 0 ≤ (k : Int) ∧ (k : Int) < m; omega
    · show 0 ≤ (l : Int) ∧ (l : Int) < m; omega, hlen⟩
  obtain ⟨r1, r2, r3, r4⟩ := ring_read hv (by omega)
  have hp := clear_parse (E := ofL (rng D fl 2)) hc [k, l] (rng D fl 2).length (by simp; omega) (Nat.le_refl _) (by rw [rst_whole, hr]) (by simp)
  refine ⟨⟨fl, rfl, rfl, .inl ⟨hv, rfl, rfl⟩, .inl ⟨r1, rfl, ?_⟩, ⟨r1.1, ?_⟩, hlen, ⟨⟨by have := hc.1.1; omega, fun i hi => hc.1.2 i (by omega)⟩, fun i j hi hj => hc.2 i j (by omega) (by omega)⟩, fun x => hc.2 k l hk hl x.2.2⟩⟩
  · have : rdg (ofL (rng D fl 2)) D m (ofL (rng D fl 2)).n = [k, l] := hp.2
    rw [this]; rfl
  · have : ways (ofL (rng D fl 2)) D m (ofL (rng D fl 2)).n = 1 := hp.1
    rw [this]; rfl
theorem two_cells (w : World) {f : Nat → Int} {k l : Nat} {T : TypeId} (h0 : f 0 = (k : Int)) (h1 : f 1 = (l : Int)) {i : Nat} (hi : i < 2) : (w.alloc (.cells #[.int .i64 (k : Int), .int .i64 (l : Int)] T)).cell? ⟨w.heap.size, 0 + i, none⟩ = some (.int .i64 (f i)) := by
  have bx := Bx.new w [.int .i64 (k : Int), .int .i64 (l : Int)] T
  have hi2 : i = 0 ∨ i = 1 := by omega
  rcases hi2 with rfl | rfl
  · rw [h0]; exact bx.cell (i := 0) (by simp)
  · rw [h1]; exact bx.cell (i := 1) (by simp)
theorem cell_up {w : World} {a : Addr} {v : Value} (o : Obj) (h : w.cell? a = some v) : (w.alloc o).cell? a = some v := (World.cell?_alloc_some w a o (by rw [h]; rfl)).trans h
theorem two_eq {f : Nat → Int} {k l : Nat} (h0 : f 0 = (k : Int)) (h1 : f 1 = (l : Int)) : eqI 2 (fun i => [(k : Int), (l : Int)].getD i 0) 2 f = true := eqI_yes fun i hi => by
  have hi2 : i = 0 ∨ i = 1 := by omega
  rcases hi2 with rfl | rfl
  · rw [h0]; rfl
  · rw [h1]; rfl
set_option maxRecDepth 100000 in
set_option maxHeartbeats 8000000 in
theorem y_FnBookClear (a0 : Option Addr) (len0 cap0 : Nat) (a1 : Option Addr) (len1 cap1 : Nat) (w : World) (hA : BytesAt w.heap.size w a0 len0) (hl : len0 ≤ 1048576) (hc : len0 ≤ cap0) (hm : cap0 ≤ 9223372036854775807) (hl1 : len1 ≤ 1048576) :
    Calls Try.prog 7 #[.slice a0 len0 cap0, .slice a1 len1 cap1] w fun e w' => e = .returned (.bool true) ∧ Below w.heap.size w w' := by
  have hAH := Lib.hid hA
  have hd0 : decide ((1048576 : Int) < (len0 : Int)) = false := by simp; omega
  have hd1 : decide ((1048576 : Int) < (len1 : Int)) = false := by simp; omega
  clear hA
  go_enter Try.func7, Try.ntmps7
  go_wp2_with fail
  refine (d_DrawBookClear a0 len0 cap0 w hAH.out hl hc hm).mono ?_
  rintro e V ⟨g, m, c, D, rfl, ⟨hm7, hmc, hcx⟩, hL, hS, hB, hcp⟩
  have HD := Lib.hid (show ∀ i, i < m → (D i).n ≤ 1048576 from fun i hi => by have := hL i hi; omega)
  have S0 := Lib.hid hS
  have B0 := Lib.hid hB
  have CP := Lib.hid hcp
  clear hL hS hB hAH hcp
  obtain ⟨v, hv⟩ := some_bool (clearV D m)
  have HV := Lib.hid hv
  clear hv
  go_wp2_with fail
  refine (iClear _ m c D _ S0.out (by omega) HD.out v HV.out).mono ?_
  rintro e w1 ⟨rfl, hb1⟩
  have S1 := Lib.hid (S0.out.topb hb1)
  have B1 := Lib.hid (bl B0.out (Nat.le_refl _) hb1)
  have CP1 : Hid (∀ i, i < m → ∀ b off, (some ⟨g, 0, none⟩ : Option Addr) = some ⟨b, off, none⟩ → ∀ a n c', w1.cell? ⟨b, off + i, none⟩ = some (.slice a n c') → n ≤ c') := fun i hi b off e a n c' hcc => by
    simp only [Option.some.injEq, Addr.mk.injEq, and_true] at e
    obtain ⟨rfl, rfl⟩ := e
    obtain ⟨bb, oo, ee, hbb, _⟩ := S0.out (by omega)
    simp only [Option.some.injEq, Addr.mk.injEq, and_true] at ee
    obtain ⟨rfl, rfl⟩ := ee
    rw [Nat.zero_add, hb1.cell (p := ⟨g, i, none⟩) hbb] at hcc
    exact CP.out i hi a n c' hcc
  clear hb1 S0 B0 CP
  go_wp2_with fail
  refine (sClear _ m c D _ S1.out (by omega) HD.out v HV.out CP1).mono ?_
  rintro e w2 ⟨rfl, hb2⟩
  have S2 := Lib.hid (S1.out.topb hb2)
  have B2 := Lib.hid (bl B1.out (Nat.le_refl _) hb2)
  clear hb2 S1 B1 CP1
  cases v
  · clear S2
    go_wp2
    go_ret
    exact ⟨rfl, B2.out⟩
  have hcv : clearV D m := HV.out.1 (by trivial)
  by_cases hm0 : m = 0
  · subst hm0
    clear S2 hcv
    go_wp2
    go_ret
    exact ⟨rfl, B2.out⟩
  have d0 : ((m : Int) == 0) = false := beq_eq_false_iff_ne.2 (by omega)
  obtain ⟨k, hk⟩ : ∃ k, len1 % m = k := ⟨_, rfl⟩
  obtain ⟨dd, hdd⟩ : ∃ dd, len1 / 11 = dd := ⟨_, rfl⟩
  obtain ⟨l, hll⟩ : ∃ l, dd % m = l := ⟨_, rfl⟩
  have hkm : k < m := by rw [← hk]; exact Nat.mod_lt _ (by omega)
  have hlm : l < m := by rw [← hll]; exact Nat.mod_lt _ (by omega)
  have hx1 : (len1 : Int) % (m : Int) = (k : Int) := by rw [← hk]; exact (Int.natCast_emod len1 m).symm
  have hx2 : Int.tmod (len1 : Int) (m : Int) = (k : Int) := by rw [Int.tmod_eq_emod_of_nonneg (by omega)]; exact hx1
  have hy1 : (len1 : Int) / 11 = (dd : Int) := by omega
  have hy2 : Int.tdiv (len1 : Int) 11 = (dd : Int) := by rw [Int.tdiv_eq_ediv_of_nonneg (by omega)]; exact hy1
  have hz1 : (dd : Int) % (m : Int) = (l : Int) := by rw [← hll]; exact (Int.natCast_emod dd m).symm
  have hz2 : Int.tmod (dd : Int) (m : Int) = (l : Int) := by rw [Int.tmod_eq_emod_of_nonneg (by omega)]; exact hz1
  obtain ⟨CF⟩ := clearF_ex hcv hkm hlm
  clear hk hll hdd hcv HV
  have hnx : Below w2.heap.size w2 (w2.alloc (.cells #[.int .i64 (k : Int), .int .i64 (l : Int)] 3)) := by go_grown
  have bx := Bx.new w2 [.int .i64 (k : Int), .int .i64 (l : Int)] 3
  have L3 : Hid (Rn (w2.alloc (.cells #[.int .i64 (k : Int), .int .i64 (l : Int)] 3)) (w2.alloc (.cells #[.int .i64 (k : Int), .int .i64 (l : Int)] 3)).heap.size (some ⟨w2.heap.size, 0, none⟩) 2 CF.fl) := fun _ => ⟨w2.heap.size, 0, rfl, by simp, fun i hi => by
    have hi2 : i = 0 ∨ i = 1 := by omega
    rcases hi2 with rfl | rfl
    · rw [CF.h0]; exact bx.cell (i := 0) (by simp)
    · rw [CF.h1]; exact bx.cell (i := 1) (by simp)⟩
  have S3 := Lib.hid (S2.out.topb hnx)
  have B3 := Lib.hid (bl B2.out (Nat.le_refl _) hnx)
  clear bx hnx S2 B2
  go_wp2_with fail
  refine (iRing _ m c D _ 2 2 CF.fl _ S3.out (by omega) HD.out L3.out (by omega) true _ CF.vg).mono ?_
  rintro e w4 h
  obtain ⟨go, co, rfl, ro, hb4⟩ := h.rd
  have S4 := Lib.hid (S3.out.topb hb4)
  have B4 := Lib.hid (bl B3.out (Nat.le_refl _) hb4)
  have O4 := Lib.hid ro
  have hxl := CF.hx
  clear h ro hb4 S3 B3 L3
  go_wp2_with fail
  refine (iRead _ m c D _ co (ofL (rng D CF.fl 2)) _ S4.out (by omega) HD.out O4.out (by show (rng D CF.fl 2).length ≤ _; omega) true _ CF.vr).mono ?_
  rintro e w5 h
  obtain ⟨gr, cr, rfl, rr, hb5⟩ := h.rd
  have S5 := Lib.hid (S4.out.topb hb5)
  have B5 := Lib.hid (bl B4.out (Nat.le_refl _) hb5)
  have O5 := Lib.hid (O4.out.topb hb5)
  have D5 := Lib.hid rr
  clear h rr hb5 S4 B4 O4
  go_wp2_with fail
  obtain ⟨b, off, ak, ck, nk, fk, e1, hbB, hDk, x0, rk⟩ := S5.out.at_ hkm
  obtain ⟨b', off', al, cl, nl, fl', e2, _, hDl, y0, rl⟩ := S5.out.at_ hlm
  simp only [Option.some.injEq, Addr.mk.injEq, and_true] at e1 e2
  obtain ⟨rfl, rfl⟩ := e1
  obtain ⟨rfl, rfl⟩ := e2
  rw [Nat.zero_add] at x0 y0
  have hnk : nk ≤ 1048576 := by have := HD.out k hkm; rw [hDk] at this; exact this
  have hnl : nl ≤ 1048576 := by have := HD.out l hlm; rw [hDl] at this; exact this
  have hbeg := CF.hb
  rw [hDk, hDl] at hbeg
  have BEG := Lib.hid hbeg
  have RK := Lib.hid rk
  have RL := Lib.hid rl
  have D5' : Hid (Rn w5 w5.heap.size (some ⟨gr, 0, none⟩) 2 (fun i => [(k : Int), (l : Int)].getD i 0)) := D5.out
  have VW := Lib.hid (show ringB (ofL (rng D CF.fl 2)) D m ∧ (1 : Int) = (ways (ofL (rng D CF.fl 2)) D m (ofL (rng D CF.fl 2)).n : Int) from CF.vw)
  have HK := Lib.hid CF.hk
  have HL0 := CF.h0
  have HL1 := CF.h1
  have k0 : (0 : Int) ≤ (k : Int) := by omega
  have k1 : (k : Int) < (m : Int) := by omega
  have k2 : (k : Int) ≤ (c : Int) := by omega
  have l0 : (0 : Int) ≤ (l : Int) := by omega
  have l1 : (l : Int) < (m : Int) := by omega
  have SI := Lib.hid (fun (W : World) (B : Nat) (p : Rn W W.heap.size (some ⟨gr, 0, none⟩) 2 (fun i => [(k : Int), (l : Int)].getD i 0)) (q : Rn W W.heap.size (some ⟨B, 0, none⟩) 2 CF.fl) => sameI (some ⟨gr, 0, none⟩) 2 cr (fun i => [(k : Int), (l : Int)].getD i 0) (some ⟨B, 0, none⟩) 2 2 CF.fl W p q (by omega) (by omega))
  rw [two_eq HL0 HL1] at SI
  clear hbeg rk rl hDk hDl D5
  go_region_held3 (fun V => V.cell? ⟨g, k, none⟩ = some (.slice ak nk ck) ∧ V.cell? ⟨g, l, none⟩ = some (.slice al nl cl)) (go_keep)
    (first
      | (go_at_call 36; refine (iClear (some ⟨g, 0, none⟩) k c D w5.drew (S5.out.topd.less (by omega)) (by omega) (fun i hi => HD.out i (by omega)) true ⟨fun _ => HK.out, fun _ => rfl⟩).mono ?_; rintro e wA ⟨rfl, hnA⟩; have hnA : Below w5.heap.size w5 wA := undrew hnA; have lgA := Nat.lt_of_lt_of_le hbB hnA.size; have xA := (hnA.cell (p := ⟨g, k, none⟩) hbB).trans x0; have yA := (hnA.cell (p := ⟨g, l, none⟩) hbB).trans y0)
      | (go_at_call 30; refine (iReadings (some ⟨g, 0, none⟩) m c D (some ⟨go, 0, none⟩) co (ofL (rng D CF.fl 2)) wA (S5.out.topb hnA) (by omega) HD.out (O5.out.topb hnA) (by show (rng D CF.fl 2).length ≤ _; omega) 1 (.inl VW.out)).mono ?_; rintro e wB ⟨rfl, hnB⟩; have lgB := Nat.lt_of_lt_of_le lgA hnB.size; have xB := (hnB.cell (p := ⟨g, k, none⟩) lgA).trans xA; have yB := (hnB.cell (p := ⟨g, l, none⟩) lgA).trans yA)
      | (go_at_call 28; refine (SI.out (wB.alloc (.cells #[.int .i64 (k : Int), .int .i64 (l : Int)] 3)) wB.heap.size ((D5'.out.topb (bl hnA (Nat.le_refl _) hnB)).top _) (fun _ => ⟨wB.heap.size, 0, rfl, by simp, fun i hi => (two_cells wB HL0 HL1 hi)⟩)).mono ?_; rintro e wC ⟨rfl, qC, rfl⟩; have xC := cell_up (.cells #[.int .i64 (k : Int), .int .i64 (l : Int)] 3) xB; have yC := cell_up (.cells #[.int .i64 (k : Int), .int .i64 (l : Int)] 3) yB)
      | (go_at_call 38; refine (iCodeBegins ak ck ⟨nk, fk⟩ al cl ⟨nl, fl'⟩ _ (((RK.out.topb (bl hnA (Nat.le_refl _) hnB)).top (.cells #[.int .i64 (k : Int), .int .i64 (l : Int)] 3)).topq qC) (((RL.out.topb (bl hnA (Nat.le_refl _) hnB)).top (.cells #[.int .i64 (k : Int), .int .i64 (l : Int)] 3)).topq qC) hnk hnl false ⟨fun x => (by cases x), fun x => absurd x BEG.out⟩).mono ?_; rintro e wD ⟨rfl, hnD⟩; have xD := (hnD.cell (p := ⟨g, k, none⟩) (by simp; omega)).trans xC; have yD := (hnD.cell (p := ⟨g, l, none⟩) (by simp; omega)).trans yC))
  have hb1 := bl (bl B5.out (Nat.le_refl _) hnA) (Nat.le_refl _) hnB
  have hb2 : Below w.heap.size w (wB.alloc (.cells #[.int .i64 (k : Int), .int .i64 (l : Int)] 3)) := hb1.alloc hb1.size _
  have HZ := Lib.hid (bl (below_dn hb2 qC) (Nat.le_refl _) hnD)
  clear hb1 hb2 hnA hnB hnD xA yA xB yB xC yC xD yD S5 B5 O5 D5' RK RL SI VW
  go_wp2
  go_ret
  exact ⟨rfl, HZ.out⟩
theorem w_FnBookClear (a0 : Option Addr) (len0 cap0 : Nat) (z0 : List Int) (a1 : Option Addr) (len1 cap1 : Nat) (z1 : List Int) (w : World) (q0 : IsRow .u8 w a0 len0 cap0 z0) (q1 : IsRow .u8 w a1 len1 cap1 z1) :
    Calls Try.prog 7 #[.slice a0 len0 cap0, .slice a1 len1 cap1] w fun e w' => e = .returned (.bool true) ∧ Below w.heap.size w w' := by
  obtain ⟨hA, hc, hm⟩ := q0.bytes
  obtain ⟨_, hc1, hm1⟩ := q1.bytes
  clear q0 q1
  by_cases hl0 : 1048576 < len0
  · have hd : decide ((1048576 : Int) < (len0 : Int)) = true := by simp; omega
    clear hA
    go_enter Try.func7, Try.ntmps7
    go_wp2
    go_ret
    exact ⟨rfl, Below.refl _ _⟩
  by_cases hl1 : 1048576 < len1
  · have hd : decide ((1048576 : Int) < (len0 : Int)) = false := by simp; omega
    have hd1 : decide ((1048576 : Int) < (len1 : Int)) = true := by simp; omega
    clear hA
    go_enter Try.func7, Try.ntmps7
    go_wp2
    go_ret
    exact ⟨rfl, Below.refl _ _⟩
  exact y_FnBookClear a0 len0 cap0 a1 len1 cap1 w hA (by omega) hc hm (by omega)
end Go.Proofs.Ytanfhgliilkhjaa
