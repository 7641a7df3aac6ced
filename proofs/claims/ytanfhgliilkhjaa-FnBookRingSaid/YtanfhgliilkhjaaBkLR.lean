/-
  The walk of FnBookRing.
-/
import Derived.Test.YtanfhgliilkhjaaBkQ
import Derived.Test.YtanfhgliilkhjaaBkDW
namespace Go.Proofs.Ytanfhgliilkhjaa
open Go.RowKit Go.Deep
set_option linter.unusedVariables false

theorem RingRes.rn {w w' : World} {ok : Bool} {xs : List Int} {e : Ending} (h : RingRes w ok xs e w') : ∃ g c : Nat, e = .returned (.tuple #[.slice (some ⟨g, 0, none⟩) xs.length c, .bool ok]) ∧ Rn w' w'.heap.size (some ⟨g, 0, none⟩) xs.length (fun i => xs.getD i 0) ∧ Below w.heap.size w w' := by
  obtain ⟨g, c, he, hg, ho, hb⟩ := h
  exact ⟨g, c, he, ho.rn hg.2, hb⟩
theorem rn_cells {w : World} {B g n : Nat} {f : Nat → Int} (h : Rn w B (some ⟨g, 0, none⟩) n f) : ∀ i, i < n → w.cell? ⟨g, 0 + i, none⟩ = some (.int .i64 (f i)) := fun i hi => by
  obtain ⟨b, off, e, _, hc⟩ := h (by omega)
  simp only [Option.some.injEq, Addr.mk.injEq, and_true] at e
  obtain ⟨rfl, rfl⟩ := e
  exact hc i hi
theorem eqI_list {xs ys : List Int} (h : xs = ys) : eqI xs.length (fun i => xs.getD i 0) ys.length (fun i => ys.getD i 0) = true := by subst h; exact eqI_self _ _
/-- append, guarded, at a source that may be empty. -/
theorem wp_appw {P : Program} {w : World} {ops : Array Oper} {rest : List Oper} {o : Oper} {a : Act} {Q : Exit → Act → World → Prop} (hw : Region.wanted o (yielded ops a.tmps) = true) (s x : Operand) (t : TypeId)
    (ho : o.op = .call { callee := .builtin .append, args := #[s, x], argTypes := #[t, t] })
    (base : Nat) (e : TypeId) (i : TypeInfo) (z : Value) (size bytes : Nat) (ht : P.underlying t = some (.slice e)) (hi : P.info? e = some i) (hz : i.zero = some z)
    (hsize : i.size = size) (hby : i.bytes = bytes) (hzs : z.cells.size = size) (hsz : 0 < size)
    (g0 c0 n : Nat) (xs : List Value) (hs : a.eval s = .slice (some ⟨g0, 0, none⟩) n c0) (hown : w.ownsRow base e size (.slice (some ⟨g0, 0, none⟩) n c0) n xs)
    (ad : Addr) (m c : Nat) (news : List Value) (hx : a.eval x = .slice (some ad) m c) (hl : news.length = m * size) (hnews : ∀ j u, news[j]? = some u → w.cell? (ad.add j) = some u) (h1 : ∀ u ∈ news, u.oneCell' = true)
    (h63 : n + m ≤ maxLen) (hbytes : (n + m) * bytes ≤ 140737488355328) (hbase : base ≤ w.heap.size) (H : Nat) (hH : w.heap.size = H) (N : Nat) (hN : n + m = N)
    (h : ∀ g cap w', w'.ownsRow base e size (.slice (some ⟨g, 0, none⟩) N cap) N (xs ++ news) → w.grownBy w' (some g0) → (g = g0 ∨ g = H) → g < w'.heap.size → wpList P ops Q rest (a.put o.dst (.slice (some ⟨g, 0, none⟩) N cap)) w') : wpList P ops Q (o :: rest) a w := by
  subst hN
  unfold wpList
  rw [if_pos hw]
  left
  obtain ⟨v', w', hr, ho', hg, hnil, hat⟩ := run_append_own_at (P := P) w base t o.type e i z size bytes ht hi hz hsize hby hzs hsz (.slice (some ⟨g0, 0, none⟩) n c0) n xs hown ad m c news hl hnews h1 h63 hbytes hbase
  have hne : v' ≠ .slice none 0 0 := fun hv => by have := (hnil.1 hv).1; simp at this
  have ho2 := ho'
  obtain ⟨hl', h2⟩ := ho'
  rcases h2 with ⟨hv, _⟩ | ⟨g', cap', cur, hv, hb, hg', _⟩
  · exact absurd hv hne
  · subst hv
    unfold Oper.wp execOp
    simp only [ho, resolve, invoke, builtin, Sem.run_bind, Sem.run_pure, Result.andThen_ok, List.map_toArray, List.map_cons, List.map_nil, hs, hx, hr]
    refine h g' cap' w' ho2 hg ?_ (lt_of_block hg')
    subst hH
    simpa [Value.ownBlock] using hat
/-- A part of a list of numbers. -/
theorem Rn.front {w : World} {B g n k : Nat} {f : Nat → Int} (h : Rn w B (some ⟨g, 0, none⟩) n f) (hk : k ≤ n) : Rn w B (some ⟨g, 0, none⟩) k f := h.less hk
theorem Rn.back {w : World} {B g n k : Nat} {f : Nat → Int} (h : Rn w B (some ⟨g, 0, none⟩) n f) (hk : k ≤ n) : Rn w B (some ⟨g, k, none⟩) (n - k) (fun i => f (k + i)) := fun hn => by
  obtain ⟨b, off, e, hb, hc⟩ := h (by omega)
  simp only [Option.some.injEq, Addr.mk.injEq, and_true] at e
  obtain ⟨rfl, rfl⟩ := e
  exact ⟨g, k, rfl, hb, fun i hi => by have := hc (k + i) (by omega); rwa [Nat.zero_add] at this⟩
theorem cellsN_list (xs : List Int) : cellsN xs.length (fun i => xs.getD i 0) = ints xs := by
  apply List.ext_getElem
  · simp [cellsN, ints]
  · intro i h1 h2
    have : i < xs.length := by simpa [ints] using h2
    simp [cellsN, ints, List.getD, this]
theorem ints_two (xs ys : List Int) : ints xs ++ ints ys = ints (xs ++ ys) := by simp [ints]
theorem ringV_is (D : Nat → LD) (m n : Nat) (f : Nat → Int) : ∃ ok xs, RingV D m n f ok xs ∧ xs.length ≤ 20 := by
  rcases Classical.em (ringV D m n f) with h | h
  · exact ⟨true, _, .inl ⟨h, rfl, rfl⟩, h.2.2⟩
  · exact ⟨false, _, .inr ⟨h, rfl, rfl⟩, by simp⟩
/-- The facts of the plain law. -/
structure RingF (D : Nat → LD) (m n : Nat) (f : Nat → Int) (k : Nat) where
  va : RingV D m k f true (rng D f k)
  vb : RingV D m (n - k) (fun i => f (k + i)) true (rng D (fun i => f (k + i)) (n - k))
  ab : rng D f k ++ rng D (fun i => f (k + i)) (n - k) = rng D f n
  l : List Nat
  vr : ReadV (ofL (rng D f n)) D m true (natI l)
  hl : (natI l).length ≤ n
  vg : RingV D m (natI l).length (fun i => (natI l).getD i 0) true (rng D f n)
  v : Nat
  hv : 1 ≤ v
  vw : ringB (ofL (rng D f n)) D m ∧ (v : Int) = (ways (ofL (rng D f n)) D m (ofL (rng D f n)).n : Int)
theorem ringF_ex {D : Nat → LD} {m n k : Nat} {f : Nat → Int} (h : ringV D m n f) (hk : k ≤ n) (hn : n ≤ 900) : Nonempty (RingF D m n f k) := by
  obtain ⟨h1, h2, h3, h4⟩ := ring_read h hn
  have hs := rng_split D f hk
  have hll := congrArg List.length hs
  rw [List.length_append] at hll
  obtain ⟨hb, hi, hl⟩ := h
  have hrl := rdg_len (e := ofL (rng D f n)) (D := D) (m := m) (rng D f n).length h1.2
  refine ⟨⟨.inl ⟨⟨hb, fun i hi2 => hi i (by omega), by omega⟩, rfl, rfl⟩, .inl ⟨⟨hb, fun i hi2 => hi (k + i) (by omega), by omega⟩, rfl, rfl⟩, hs.symm, rdg (ofL (rng D f n)) D m (rng D f n).length, .inl ⟨h1, rfl, rfl⟩, ?_, ?_, ways (ofL (rng D f n)) D m (rng D f n).length, h4, h1.1, rfl⟩⟩
  · rw [natI_len, hrl]; exact h2
  · have hr : rng D (fun i => (natI (rdg (ofL (rng D f n)) D m (rng D f n).length)).getD i 0) (natI (rdg (ofL (rng D f n)) D m (rng D f n).length)).length = rng D f n := by rw [natI_len, rng_natI, h3]
    refine .inl ⟨⟨hb, fun i hi2 => ?_, by rw [hr]; exact hl⟩, rfl, hr.symm⟩
    rw [natI_len] at hi2
    have hm := rdg_lt (e := ofL (rng D f n)) (D := D) (m := m) (rng D f n).length h1.2 _ (List.getElem_mem hi2)
    have : (natI (rdg (ofL (rng D f n)) D m (rng D f n).length)).getD i 0 = (((rdg (ofL (rng D f n)) D m (rng D f n).length)[i] : Nat) : Int) := by simp [natI, List.getD, hi2]
    show 0 ≤ (natI (rdg (ofL (rng D f n)) D m (rng D f n).length)).getD i 0 ∧ (natI (rdg (ofL (rng D f n)) D m (rng D f n).length)).getD i 0 < m
    rw [this]
    omega
set_option maxRecDepth 100000 in
set_option maxHeartbeats 8000000 in
theorem y_FnBookRing (a0 : Option Addr) (len0 cap0 : Nat) (a1 : Option Addr) (len1 cap1 : Nat) (w : World) (hA : BytesAt w.heap.size w a0 len0) (hl : len0 ≤ 1048576) (hc : len0 ≤ cap0) (hm : cap0 ≤ 9223372036854775807) (hl1 : len1 ≤ 1048576) :
    Calls Try.prog 5 #[.slice a0 len0 cap0, .slice a1 len1 cap1] w fun e w' => e = .returned (.bool true) ∧ Below w.heap.size w w' := by
  have hAH := Lib.hid hA
  have hd0 : decide ((1048576 : Int) < (len0 : Int)) = false := by simp; omega
  have hd1 : decide ((1048576 : Int) < (len1 : Int)) = false := by simp; omega
  clear hA
  go_enter Try.func5, Try.ntmps5
  go_wp2_with fail
  refine (d_DrawBookRing a0 len0 cap0 w hAH.out hl hc hm).mono ?_
  rintro e V ⟨g, m, c, D, g2, n, c2, f, rfl, ⟨⟨hm7, hmc, hcx⟩, hL, hS, hB⟩, ⟨hn, hnc, hcx2⟩, hF⟩
  have HD := Lib.hid (show ∀ i, i < m → (D i).n ≤ 1048576 from fun i hi => by have := hL i hi; omega)
  have S0 := Lib.hid hS
  have F0 := Lib.hid hF
  have B0 := Lib.hid hB
  clear hL hS hB hF hAH
  obtain ⟨ok, xs, hv, hxl⟩ := ringV_is D m n f
  have HV := Lib.hid hv
  clear hv
  go_wp2_with fail
  refine (iRing _ m c D _ n c2 f _ S0.out (by omega) HD.out F0.out (by omega) ok xs HV.out).mono ?_
  rintro e w1 h
  obtain ⟨go, co, rfl, ro, hb1⟩ := h.rn
  have S1 := Lib.hid (S0.out.topb hb1)
  have F1 := Lib.hid (F0.out.topb hb1)
  have B1 := Lib.hid (bl B0.out (Nat.le_refl _) hb1)
  have O1 := Lib.hid ro
  clear h ro hb1 S0 F0 B0
  go_wp2_with fail
  refine (sRing _ m c D _ n c2 f _ S1.out (by omega) HD.out F1.out (by omega) ok xs HV.out).mono ?_
  rintro e w2 h
  obtain ⟨gw, cw, rfl, rw2, hb2⟩ := h.rn
  have S2 := Lib.hid (S1.out.topb hb2)
  have F2 := Lib.hid (F1.out.topb hb2)
  have B2 := Lib.hid (bl B1.out (Nat.le_refl _) hb2)
  have O2 := Lib.hid (O1.out.topb hb2)
  have W2 := Lib.hid rw2
  clear h rw2 hb2 S1 F1 B1 O1
  have hse := fun (W : World) (p : Rn W W.heap.size (some ⟨go, 0, none⟩) xs.length (fun i => xs.getD i 0)) (q : Rn W W.heap.size (some ⟨gw, 0, none⟩) xs.length (fun i => xs.getD i 0)) => sameI (some ⟨go, 0, none⟩) xs.length co (fun i => xs.getD i 0) (some ⟨gw, 0, none⟩) xs.length cw (fun i => xs.getD i 0) W p q (by omega) (by omega)
  rw [eqI_self] at hse
  have HSE := Lib.hid hse
  clear hse
  cases ok
  · go_wp2_with fail
    refine (HSE.out _ O2.out W2.out).mono ?_
    rintro e w3 ⟨rfl, q3, rfl⟩
    go_wp2_with fail
    refine (HSE.out _ (O2.out.topq q3) (W2.out.topq q3)).mono ?_
    rintro e w4 ⟨rfl, q4, rfl⟩
    clear S2 F2 O2 W2 HSE
    go_wp2
    go_ret
    exact ⟨rfl, below_dn B2.out _⟩
  go_wp2_with fail
  refine (HSE.out _ O2.out W2.out).mono ?_
  rintro e w3 ⟨rfl, q3, rfl⟩
  have hrv : ringV D m n f ∧ xs = rng D f n := by
    rcases HV.out with h | h
    · exact ⟨h.1, h.2.2⟩
    · cases h.2.1
  obtain ⟨hrv, rfl⟩ := hrv
  obtain ⟨k, hk⟩ : ∃ k, len1 % (n + 1) = k := ⟨_, rfl⟩
  have hkn : k ≤ n := by rw [← hk]; have := Nat.mod_lt len1 (show 0 < n + 1 by omega); omega
  have hx1 : (len1 : Int) % ((n : Int) + 1) = (k : Int) := by rw [← hk]; simp
  have hx2 : Int.tmod (len1 : Int) ((n : Int) + 1) = (k : Int) := by rw [Int.tmod_eq_emod_of_nonneg (by omega)]; exact hx1
  obtain ⟨RF⟩ := ringF_ex hrv hkn (by omega)
  have S3 := Lib.hid (S2.out.topq q3)
  have F3 := Lib.hid (F2.out.topq q3)
  have O3 := Lib.hid (O2.out.topq q3)
  have B3 := Lib.hid (below_dn B2.out q3)
  clear hk hrv HV S2 F2 O2 W2 B2 HSE
  have k0 : (0 : Int) ≤ (k : Int) := by omega
  have k1 : (k : Int) ≤ (c2 : Int) := by omega
  have k2 : (k : Int) ≤ (n : Int) := by omega
  have k3 : (n : Int) ≤ (c2 : Int) := by omega
  have kz : ((n : Int) + 1 == 0) = false := beq_eq_false_iff_ne.2 (by omega)
  go_wp2_with fail
  refine (iRing _ m c D _ k c2 f _ S3.out (by omega) HD.out (F3.out.front hkn) (by omega) true _ RF.va).mono ?_
  rintro e w4 h
  obtain ⟨ga, ca, rfl, ra, hb4⟩ := h.rn
  have S4 := Lib.hid (S3.out.topb hb4)
  have F4 := Lib.hid (F3.out.topb hb4)
  have O4 := Lib.hid (O3.out.topb hb4)
  have B4 := Lib.hid (bl B3.out (Nat.le_refl _) hb4)
  have A4 := Lib.hid ra
  have PB := Lib.hid (F4.out.back hkn)
  clear h ra hb4 S3 F3 O3 B3 F4
  go_wp2_with fail
  all_goals
    refine (iRing _ m c D _ (n - k) _ (fun i => f (k + i)) _ S4.out (by omega) HD.out (by first | exact PB.out | exact fun hn => absurd hn (by omega)) (by omega) true _ RF.vb).mono ?_
    rintro e w5 h5
    obtain ⟨gb, cb, rfl, rb, hb5⟩ := h5.rn
    have S5 := Lib.hid (S4.out.topb hb5)
    have O5 := Lib.hid (O4.out.topb hb5)
    have A5 := Lib.hid (A4.out.topb hb5)
    have B5 := Lib.hid (bl B4.out (Nat.le_refl _) hb5)
    have R5 := Lib.hid rb
    clear h5 rb hb5 S4 O4 B4 A4 PB
    go_wp2_with fail
    refine (iRead _ m c D _ co (ofL (rng D f n)) _ S5.out (by omega) HD.out O5.out (by show (rng D f n).length ≤ _; omega) true _ RF.vr).mono ?_
    rintro e w6 h6
    obtain ⟨gr, cr, rfl, rr, hb6⟩ := h6.rn
    have S6 := Lib.hid (S5.out.topb hb6)
    have O6 := Lib.hid (O5.out.topb hb6)
    have A6 := Lib.hid (A5.out.topb hb6)
    have R6 := Lib.hid (R5.out.topb hb6)
    have B6 := Lib.hid (bl B5.out (Nat.le_refl _) hb6)
    have D6 := Lib.hid rr
    have hrl := RF.hl
    clear h6 rr hb6 S5 O5 B5 A5 R5
    go_wp2_with fail
    refine (iRing _ m c D _ (natI RF.l).length cr (fun i => (natI RF.l).getD i 0) _ S6.out (by omega) HD.out D6.out (by omega) true _ RF.vg).mono ?_
    rintro e w7 h7
    obtain ⟨gg, cg, rfl, rg, hb7⟩ := h7.rn
    have S7 := Lib.hid (S6.out.topb hb7)
    have O7 := Lib.hid (O6.out.topb hb7)
    have A7 := Lib.hid (A6.out.topb hb7)
    have R7 := Lib.hid (R6.out.topb hb7)
    have B7 := Lib.hid (bl B6.out (Nat.le_refl _) hb7)
    have G7 := Lib.hid rg
    clear h7 rg hb7 S6 O6 B6 A6 R6 D6
    obtain ⟨i0, ji0, jz0, jz1, jz2⟩ := info_parts intInfo
    have W0 := Lib.hid (World.ownsRow_made (base := w7.heap.size) (size := 1) (e := 3) w7 #[] 0 (Nat.le_refl _) (by unfold maxLen; omega) (by simp))
    have hab := congrArg List.length RF.ab
    rw [List.length_append] at hab
    obtain ⟨na, hna⟩ : ∃ na, (rng D f k).length = na := ⟨_, rfl⟩
    obtain ⟨nb, hnb⟩ : ∃ nb, (rng D (fun i => f (k + i)) (n - k)).length = nb := ⟨_, rfl⟩
    obtain ⟨nx, hnx0⟩ : ∃ nx, (rng D f n).length = nx := ⟨_, rfl⟩
    obtain ⟨nr, hnr⟩ : ∃ nr, (natI RF.l).length = nr := ⟨_, rfl⟩
    rw [hna, hnb, hnx0] at hab
    have hsame : eqI (na + nb) (fun i => (rng D f n).getD i 0) nx (fun i => (rng D f n).getD i 0) = true := by rw [hab]; exact eqI_self _ _
    rw [hna] at A7
    rw [hnb] at R7
    rw [hnx0] at O7 G7 hxl
    rw [hnr] at hrl
    have RW := Lib.hid (fun (W : World) p q => iReadings (some ⟨g, 0, none⟩) m c D (some ⟨go, 0, none⟩) co (ofL (rng D f n)) W p (by omega) HD.out q (by show (rng D f n).length ≤ _; omega) (RF.v : Int) (.inl RF.vw))
    have hofn : (ofL (rng D f n)).n = nx := hnx0
    have hoff : (ofL (rng D f n)).f = fun i => (rng D f n).getD i 0 := rfl
    rw [hofn, hoff] at RW
    have XA := Lib.hid (show cellsN na (fun i => (rng D f k).getD i 0) ++ cellsN nb (fun i => (rng D (fun i => f (k + i)) (n - k)).getD i 0) = ints (rng D f n) by rw [← hna, ← hnb, cellsN_list, cellsN_list, ints_two, RF.ab])
    have hv1 := RF.hv
    have hd7 : decide ((1 : Int) ≤ (RF.v : Int)) = true := decide_eq_true (by omega)
    have hd8 : decide ((nr : Int) ≤ (n : Int)) = true := decide_eq_true (by omega)
    have hd9 : decide (nr ≤ n) = true := decide_eq_true (by omega)
    obtain ⟨FA, hFA⟩ : ∃ FA : Nat → Int, (fun i => (rng D f k).getD i 0) = FA := ⟨_, rfl⟩
    obtain ⟨FB, hFB⟩ : ∃ FB : Nat → Int, (fun i => (rng D (fun i => f (k + i)) (n - k)).getD i 0) = FB := ⟨_, rfl⟩
    obtain ⟨FX, hFX⟩ : ∃ FX : Nat → Int, (fun i => (rng D f n).getD i 0) = FX := ⟨_, rfl⟩
    rw [hFA] at A7 XA
    rw [hFB] at R7 XA
    rw [hFX] at O7 G7 hsame RW
    have FXX := Lib.hid hFX
    have LEN := Lib.hid (And.intro hna (And.intro hnb (And.intro hnx0 hnr)))
    have hnx : Below w7.heap.size w7 (w7.alloc (.cells #[] 3)) := by go_grown
    have AC := Lib.hid (cellsN_of (n := na) (rn_cells (A7.out.topb hnx)))
    have RX := Lib.hid (R7.out.topb hnx)
    have HNX := Lib.hid hnx
    rw [hna, hnb, hnx0, hnr]
    clear hnx hna hnb hnx0 hnr hFA hFB hFX hofn hoff
    go_wp2_with (at_builtin; refine wp_appw (by rfl) _ _ _ rfl w7.heap.size 3 i0 (.int .i64 0) 1 8 Try.underlying23 ji0 jz0 jz1 jz2 rfl (by omega) w7.heap.size 0 0 [] rfl W0.out ⟨ga, 0, none⟩ na ca (cellsN na FA) rfl ?c1 AC.out cellsN_one ?c3 ?c4 ?c5 (w7.heap.size + 1) ?c6 na (by omega) ?_)
    case c1 => rw [cellsN_len]; omega
    case c3 => unfold maxLen; omega
    case c4 => omega
    case c5 => simp
    case c6 => simp
    intro g8 k8 w8 hown8 hg8 hat8 hlt8
    have hk8 := owns_cap hown8
    have hb8 : Below w7.heap.size w7 w8 := HNX.out.grown hg8 (by simp) (fun k e => by injection e with e; omega)
    have hs8 := hb8.size
    have gb8 : (w7.alloc (.cells #[] 3)).heap.size = w7.heap.size + 1 := by simp
    have HO8 := Lib.hid hown8
    have BC := Lib.hid (cellsN_of (n := nb) (rn_cells (R7.out.topb hb8)))
    have HB8 := Lib.hid hb8
    clear hown8 hg8 hb8 gb8 A7 R7 AC RX HNX W0
    go_wp2_with (at_builtin; refine wp_appw (by rfl) _ _ _ rfl w7.heap.size 3 i0 (.int .i64 0) 1 8 Try.underlying23 ji0 jz0 jz1 jz2 rfl (by omega) g8 k8 na (cellsN na FA) rfl HO8.out ⟨gb, 0, none⟩ nb cb (cellsN nb FB) rfl ?c1 BC.out cellsN_one ?c3 ?c4 ?c5 w8.heap.size ?c6 nx hab ?_)
    case c1 => rw [cellsN_len]; omega
    case c3 => unfold maxLen; omega
    case c4 => omega
    case c5 => exact hs8
    case c6 => rfl
    intro g9 k9 w9 hown9 hg9 hat9 hlt9
    rw [XA.out] at hown9
    have hb9 : Below w7.heap.size w7 w9 := HB8.out.grown hg9 hs8 (fun k e => by injection e with e; omega)
    have O9 := Lib.hid (O7.out.topb hb9)
    have G9 := Lib.hid (G7.out.topb hb9)
    have S9 := Lib.hid (S7.out.topb hb9)
    have B9 := Lib.hid (bl B7.out (Nat.le_refl _) hb9)
    have X9 : Hid (Rn w9 w9.heap.size (some ⟨g9, 0, none⟩) nx FX) := (Ow.of_owns hown9 (fun i hi => by
      have := ints_at (xs := rng D f n) (i := i) (by rw [LEN.out.2.2.1]; exact hi)
      rw [this, ← FXX.out])).rn hlt9
    have SE := Lib.hid (fun (W : World) (A : Option Addr) (cA : Nat) (p : Rn W W.heap.size A nx FX) (q : Rn W W.heap.size (some ⟨go, 0, none⟩) nx FX) => sameI A nx cA FX (some ⟨go, 0, none⟩) nx co FX W p q (by omega) (by omega))
    rw [eqI_self] at SE
    clear hb9 hown9 hg9 HB8 HO8 BC O7 G7 S7 B7 XA
    go_wp2_with fail
    refine (SE.out _ _ _ X9.out O9.out).mono ?_
    rintro e wa ⟨rfl, qa, rfl⟩
    have Oa := Lib.hid (O9.out.topq qa)
    have Ga := Lib.hid (G9.out.topq qa)
    have Sa := Lib.hid (S9.out.topq qa)
    have Ba := Lib.hid (below_dn B9.out qa)
    clear O9 G9 S9 B9 X9
    go_wp2_with fail
    refine (RW.out _ Sa.out Oa.out).mono ?_
    rintro e wb ⟨rfl, hbb⟩
    have Ob := Lib.hid (Oa.out.topb hbb)
    have Gb := Lib.hid (Ga.out.topb hbb)
    have Bb := Lib.hid (bl Ba.out (Nat.le_refl _) hbb)
    clear hbb Oa Ga Sa Ba
    go_wp2_with fail
    refine (SE.out _ _ _ Gb.out Ob.out).mono ?_
    rintro e wc ⟨rfl, qc, rfl⟩
    have Bc := Lib.hid (below_dn Bb.out qc)
    clear Ob Gb Bb SE RW
    go_wp2
    go_ret
    exact ⟨rfl, Bc.out⟩
theorem w_FnBookRing (a0 : Option Addr) (len0 cap0 : Nat) (z0 : List Int) (a1 : Option Addr) (len1 cap1 : Nat) (z1 : List Int) (w : World) (q0 : IsRow .u8 w a0 len0 cap0 z0) (q1 : IsRow .u8 w a1 len1 cap1 z1) :
    Calls Try.prog 5 #[.slice a0 len0 cap0, .slice a1 len1 cap1] w fun e w' => e = .returned (.bool true) ∧ Below w.heap.size w w' := by
  obtain ⟨hA, hc, hm⟩ := q0.bytes
  obtain ⟨_, hc1, hm1⟩ := q1.bytes
  clear q0 q1
  by_cases hl0 : 1048576 < len0
  · have hd : decide ((1048576 : Int) < (len0 : Int)) = true := by simp; omega
    clear hA
    go_enter Try.func5, Try.ntmps5
    go_wp2
    go_ret
    exact ⟨rfl, Below.refl _ _⟩
  by_cases hl1 : 1048576 < len1
  · have hd : decide ((1048576 : Int) < (len0 : Int)) = false := by simp; omega
    have hd1 : decide ((1048576 : Int) < (len1 : Int)) = true := by simp; omega
    clear hA
    go_enter Try.func5, Try.ntmps5
    go_wp2
    go_ret
    exact ⟨rfl, Below.refl _ _⟩
  exact y_FnBookRing a0 len0 cap0 a1 len1 cap1 w hA (by omega) hc hm (by omega)
end Go.Proofs.Ytanfhgliilkhjaa
