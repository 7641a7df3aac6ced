/-
  Contracts of PathClash, the program's and the reference's.
-/
import Derived.Test.YtjppkcfbhhjniaaPathCl
import Derived.Laws.MakeOwn
namespace Go.Proofs.Ytjppkcfbhhjniaa
open Go.RowKit
set_option linter.unusedVariables false

/-- Numbers as cells. -/
def ints (xs : List Int) : List Value := xs.map (Value.int .i64)
theorem ints_len (xs : List Int) : (ints xs).length = xs.length := by simp [ints]
theorem ints_at {xs : List Int} {i : Nat} (h : i < xs.length) : (ints xs)[i]? = some (.int .i64 (xs.getD i 0)) := by
  simp [ints, List.getD, h]
theorem ints_snoc (xs : List Int) (x : Int) : ints (xs ++ [x]) = ints xs ++ [.int .i64 x] := by simp [ints]
/-- A list of numbers has been made. -/
def IntsRes (w : World) (xs : List Int) (e : Ending) (w' : World) : Prop :=
  ∃ g c : Nat, e = .returned (.slice (some ⟨g, 0, none⟩) xs.length c) ∧ (w.heap.size ≤ g ∧ g < w'.heap.size) ∧ (xs.length ≤ c ∧ c ≤ maxLen) ∧ Ow w' g (some ⟨g, 0, none⟩) xs.length (fun i => xs.getD i 0) ∧ Below w.heap.size w w'
theorem intsRes_of {w w' : World} {base T g c n : Nat} {xs : List Int} (hn : xs.length = n) (h : w'.ownsRow base T 1 (.slice (some ⟨g, 0, none⟩) n c) n (ints xs)) (hb : w.heap.size ≤ base) (hB : Below w.heap.size w w') : IntsRes w xs (.returned (.slice (some ⟨g, 0, none⟩) n c)) w' := by
  subst hn
  have h1 := owns_cap h
  exact ⟨g, c, rfl, ⟨by omega, (h.lt g rfl).2⟩, ⟨h1.1, h1.2.1⟩, Ow.of_owns h (fun i hi => ints_at hi), hB⟩
/-- Two boxed paths that are read. -/
def TwoP (wr : World) (B x y : Nat) (a1 : Option Addr) (c1 : Nat) (a2 : Option Addr) (c2 : Nat) (d1 : Option Addr) (e1 : Nat) (d2 : Option Addr) (e2 : Nat) (p q : PD) : Prop :=
  Bx wr x [.slice a1 p.m1 c1, .slice a2 p.m2 c2] ∧ Bx wr y [.slice d1 q.m1 e1, .slice d2 q.m2 e2] ∧ Rn wr B a1 p.m1 p.f1 ∧ Rn wr B a2 p.m2 p.f2 ∧ Rn wr B d1 q.m1 q.f1 ∧ Rn wr B d2 q.m2 q.f2
section
variable {w w' : World} {B x y c1 c2 e1 e2 : Nat} {a1 a2 d1 d2 : Option Addr} {p q : PD}
theorem TwoP.of (h : TwoP w B x y a1 c1 a2 c2 d1 e1 d2 e2 p q) (hx : w'.heap[x]? = w.heap[x]?) (hy : w'.heap[y]? = w.heap[y]?) (hk : ∀ k, k < B → w'.heap[k]? = w.heap[k]?) : TwoP w' B x y a1 c1 a2 c2 d1 e1 d2 e2 p q := by
  obtain ⟨h1, h2, h3, h4, h5, h6⟩ := h
  exact ⟨h1.of hx, h2.of hy, h3.keep hk, h4.keep hk, h5.keep hk, h6.keep hk⟩
theorem TwoP.lt (h : TwoP w B x y a1 c1 a2 c2 d1 e1 d2 e2 p q) : x < w.heap.size ∧ y < w.heap.size := ⟨h.1.lt, h.2.1.lt⟩
theorem TwoP.alloc (h : TwoP w B x y a1 c1 a2 c2 d1 e1 d2 e2 p q) (hB : B ≤ w.heap.size) (o : Obj) : TwoP (w.alloc o) B x y a1 c1 a2 c2 d1 e1 d2 e2 p q :=
  h.of (Go.Deep.blk_alloc_lt _ _ _ h.lt.1) (Go.Deep.blk_alloc_lt _ _ _ h.lt.2) (fun k hk => Go.Deep.blk_alloc_lt _ _ _ (by omega))
theorem TwoP.call (h : TwoP w B x y a1 c1 a2 c2 d1 e1 d2 e2 p q) (hB : B ≤ w.heap.size) (hb : Below w.heap.size w w') : TwoP w' B x y a1 c1 a2 c2 d1 e1 d2 e2 p q :=
  h.of (hb.block _ h.lt.1) (hb.block _ h.lt.2) (fun k hk => hb.block k (by omega))
theorem TwoP.grown (h : TwoP w B x y a1 c1 a2 c2 d1 e1 d2 e2 p q) (hB : B ≤ w.heap.size) {r : Nat} (hg : w.grownBy w' (some r)) (h1 : x ≠ r) (h2 : y ≠ r) (h3 : B ≤ r) : TwoP w' B x y a1 c1 a2 c2 d1 e1 d2 e2 p q :=
  h.of (hg.block _ h.lt.1 (fun e => h1 (by injection e))) (hg.block _ h.lt.2 (fun e => h2 (by injection e))) (fun k hk => hg.block k (by omega) (fun e => by injection e; omega))
theorem TwoP.drewN (h : TwoP w B x y a1 c1 a2 c2 d1 e1 d2 e2 p q) (n : Nat) : TwoP (w.drewN n) B x y a1 c1 a2 c2 d1 e1 d2 e2 p q := h
theorem TwoP.cells (h : TwoP w B x y a1 c1 a2 c2 d1 e1 d2 e2 p q) : (w.cell? ⟨x, 0, none⟩ = some (.slice a1 p.m1 c1) ∧ w.cell? ⟨x, 1, none⟩ = some (.slice a2 p.m2 c2)) ∧ (w.cell? ⟨y, 0, none⟩ = some (.slice d1 q.m1 e1) ∧ w.cell? ⟨y, 1, none⟩ = some (.slice d2 q.m2 e2)) :=
  ⟨⟨h.1.cell (i := 0) (by simp), h.1.cell (i := 1) (by simp)⟩, h.2.1.cell (i := 0) (by simp), h.2.1.cell (i := 1) (by simp)⟩
end
def ClashR (w : World) (T : TypeId) (m : Nat) (a1 : Option Addr) (c1 : Nat) (a2 : Option Addr) (c2 : Nat) (d1 : Option Addr) (e1 : Nat) (d2 : Option Addr) (e2 : Nat) (f1 f2 g1 g2 : Nat → Int) (v i : Value) (wr : World) : Prop :=
  ∃ (j g cp n : Nat) (xs : List Int), j ≤ m ∧ i = .int .i64 j ∧ v = .slice (some ⟨g, 0, none⟩) n cp ∧ Hid (xs.length = n) ∧ n ≤ j ∧ Hid (clashT ⟨m, f1, m, f2⟩ ⟨m, g1, m, g2⟩ j = xs) ∧ wr.ownsRow (w.heap.size + 2) T 1 (.slice (some ⟨g, 0, none⟩) n cp) n (ints xs) ∧
    TwoP wr w.heap.size w.heap.size (w.heap.size + 1) a1 c1 a2 c2 d1 e1 d2 e2 ⟨m, f1, m, f2⟩ ⟨m, g1, m, g2⟩ ∧ Below w.heap.size w wr
set_option maxHeartbeats 4000000 in
theorem iPathClash_yes (a1 a2 d1 d2 : Option Addr) (m c1 c2 e1 e2 : Nat) (f1 f2 g1 g2 : Nat → Int) (w : World) (r1 : Rn w w.heap.size a1 m f1) (r2 : Rn w w.heap.size a2 m f2) (s1 : Rn w w.heap.size d1 m g1) (s2 : Rn w w.heap.size d2 m g2)
    (hp : pathV m ⟨m, f1, m, f2⟩ = true) (hq : pathV m ⟨m, g1, m, g2⟩ = true) :
    Calls Try.prog 34 #[.int .i64 (m : Int), .agg #[.slice a1 m c1, .slice a2 m c2], .agg #[.slice d1 m e1, .slice d2 m e2]] w (IntsRes w (clashT ⟨m, f1, m, f2⟩ ⟨m, g1, m, g2⟩ m)) := by
  obtain ⟨i0, ji0, jz0, jz1, jz2⟩ := info_parts intInfo
  have hm := pathV_iff.1 hp
  have hm1 : 1 ≤ m ∧ m ≤ 5 := by omega
  have hmk := fun W : World => run_make (P := Try.prog) W 27 3 i0 (.int .i64 0) Try.underlying27 ji0 jz0 .i64 .i64 0 m (by omega) (by omega) (by rw [jz2]; omega) (by omega)
  simp only [Int.toNat_natCast, Int.toNat_zero, jz1, Nat.mul_one] at hmk
  have J := Lib.hid (And.intro ji0 (And.intro jz0 (And.intro jz1 jz2)))
  have P := Lib.hid hp
  have Q := Lib.hid hq
  have h2 : TwoP ((w.alloc (.cells #[.slice a1 m c1, .slice a2 m c2] 31)).alloc (.cells #[.slice d1 m e1, .slice d2 m e2] 31)) w.heap.size w.heap.size (w.heap.size + 1) a1 c1 a2 c2 d1 e1 d2 e2 ⟨m, f1, m, f2⟩ ⟨m, g1, m, g2⟩ :=
    ⟨(Bx.new w [.slice a1 m c1, .slice a2 m c2] _).alloc _, by have h := Bx.new (w.alloc (.cells #[.slice a1 m c1, .slice a2 m c2] 31)) [.slice d1 m e1, .slice d2 m e2] 31; simpa using h,
      (r1.alloc (Nat.le_refl _) _).alloc (by simp) _, (r2.alloc (Nat.le_refl _) _).alloc (by simp) _, (s1.alloc (Nat.le_refl _) _).alloc (by simp) _, (s2.alloc (Nat.le_refl _) _).alloc (by simp) _⟩
  have R1 := Lib.hid (r1.top2 (.cells #[.slice a1 m c1, .slice a2 m c2] 31) (.cells #[.slice d1 m e1, .slice d2 m e2] 31))
  have R2 := Lib.hid (r2.top2 (.cells #[.slice a1 m c1, .slice a2 m c2] 31) (.cells #[.slice d1 m e1, .slice d2 m e2] 31))
  have S1 := Lib.hid (s1.top2 (.cells #[.slice a1 m c1, .slice a2 m c2] 31) (.cells #[.slice d1 m e1, .slice d2 m e2] 31))
  have S2 := Lib.hid (s2.top2 (.cells #[.slice a1 m c1, .slice a2 m c2] 31) (.cells #[.slice d1 m e1, .slice d2 m e2] 31))
  clear hm ji0 jz0 jz1 jz2 hp hq r1 r2 s1 s2
  go_enter Try.func34, Try.ntmps34
  go_wp2_with fail
  refine (iValid_is true w.heap.size 0 a1 a2 m c1 m c2 f1 f2 m _ P.out ?_ ?_ R1.out R2.out).mono ?_
  · simp [go_sem]
  · simp [go_sem]
  rintro e w1 ⟨rfl, q1, rfl⟩
  go_wp2_with fail
  refine (iValid_is true (w.heap.size + 1) 0 d1 d2 m e1 m e2 g1 g2 m _ Q.out ?_ ?_ (S1.out.topq _) (S2.out.topq _)).mono ?_
  · simp [go_sem]
  · simp [go_sem]
  rintro e w1 ⟨rfl, q2, rfl⟩
  have o0 := World.ownsRow_made (base := w.heap.size + 2) (size := 1) (e := 3) ((w.alloc (.cells #[.slice a1 m c1, .slice a2 m c2] 31)).alloc (.cells #[.slice d1 m e1, .slice d2 m e2] 31)) (madeCells (Value.int .i64 0).cells m) m (by simp) (by unfold maxLen; omega) (by simp [size_madeCells])
  have h3 := h2.alloc (by simp; omega) (.cells (madeCells (Value.int .i64 0).cells m) 3)
  have O := Lib.hid o0
  clear h2 o0
  go_wp2
  go_loopw [7, 21] (fun v i wr => ClashR w 3 m a1 c1 a2 c2 d1 e1 d2 e2 f1 f2 g1 g2 v i wr) (fun _ i _ => m - (intOf i).toNat)
  case atStart => exact ⟨0, w.heap.size + 1 + 1, m, 0, [], Nat.zero_le _, rfl, rfl, rfl, Nat.le_refl _, rfl, by have := O.out; simp only [World.size_alloc] at this; exact this, h3, (by go_grown <;> (refine below_dn ?_ _ <;> go_grown <;> (refine below_dn ?_ _ <;> go_grown)))⟩
  case round =>
    clear h3 O hmk R1 R2 S1 S2
    obtain ⟨ji0, jz0, jz1, jz2⟩ := J.out
    obtain ⟨j, g, cp, n, xs, hj, rfl, rfl, hlen, hnj, hxs, hown, h2, hb⟩ := hrel
    obtain ⟨⟨x0, x1⟩, y0, y1⟩ := h2.cells
    obtain ⟨_, _, t1, t2, t3, t4⟩ := id h2
    have hsz := hb.size
    by_cases hlt : j < m
    · have T1 := Lib.hid (t1.up hsz)
      have T2 := Lib.hid (t2.up hsz)
      have T3 := Lib.hid (t3.up hsz)
      have T4 := Lib.hid (t4.up hsz)
      clear t1 t2 t3 t4
      cases hc : clash ⟨m, f1, m, f2⟩ ⟨m, g1, m, g2⟩ j
      · have hst : Hid (clashT ⟨m, f1, m, f2⟩ ⟨m, g1, m, g2⟩ (j + 1) = xs) := (clashT_no hc).trans hxs
        have HC := Lib.hid hc
        clear hc
        go_wp2_with fail
        refine (iClashes w.heap.size 0 (w.heap.size + 1) 0 a1 a2 d1 d2 m c1 m c2 m e1 m e2 f1 f2 g1 g2 j _ x0 x1 y0 y1 T1.out T2.out T3.out T4.out ⟨hlt, hlt, hlt, hlt⟩).mono ?_
        rintro e w1 ⟨rfl, q, rfl⟩
        rw [HC.out]
        have HR : ClashR w 3 m a1 c1 a2 c2 d1 e1 d2 e2 f1 f2 g1 g2 (.slice (some ⟨g, 0, none⟩) n cp) (.int .i64 ((j : Int) + 1)) (wr.drewN q) := ⟨j + 1, g, cp, n, xs, by omega, by go_num, rfl, hlen, by omega, hst, hown, h2.drewN q, below_dn hb q⟩
        clear h2 hown x0 x1 y0 y1
        go_wp2
        go_roundw
        case rel => exact HR
        case measure => simp [intOf]; omega
      · have hst : Hid (clashT ⟨m, f1, m, f2⟩ ⟨m, g1, m, g2⟩ (j + 1) = xs ++ [(j : Int)]) := (clashT_yes hc).trans (by rw [show clashT _ _ j = xs from hxs])
        have HC := Lib.hid hc
        have hl := (hown.lt g rfl).2
        have hgb := (owns_cap hown).2.2
        have HO := Lib.hid hown
        clear hc hown
        go_wp2_with fail
        refine (iClashes w.heap.size 0 (w.heap.size + 1) 0 a1 a2 d1 d2 m c1 m c2 m e1 m e2 f1 f2 g1 g2 j _ x0 x1 y0 y1 T1.out T2.out T3.out T4.out ⟨hlt, hlt, hlt, hlt⟩).mono ?_
        rintro e w1 ⟨rfl, q, rfl⟩
        rw [HC.out]
        go_wp2_with (at_builtin; refine wpList_append_lies _ rfl _ _ _ rfl (w.heap.size + 2) 3 i0 (.int .i64 0) 1 8 Try.underlying27 ji0 jz0 jz1 jz2 rfl (by omega) _ n (ints xs) rfl (show ((wr.alloc (.cells #[.int .i64 (j : Int)] 3)).drewN q).ownsRow _ _ _ _ _ _ from HO.out.alloc _) ⟨wr.heap.size, 0, none⟩ 1 1 [.int .i64 (j : Int)] rfl rfl ?c1 ?c2 (by omega) ?c3 ?c4 ?c5 (wr.heap.size + 1) ?c6 ?_)
        case c1 => exact World.news_of_block (cs := #[.int .i64 (j : Int)]) (t := 3) (fr := (0, 0)) (heap_alloc_new wr _)
        case c2 => simp [Value.oneCell']
        case c3 => unfold maxLen; omega
        case c4 => omega
        case c5 => simp; omega
        case c6 => simp
        intro g' cap w4 hown hgrow hat hlt4
        have hG : wr.grownBy w4 (some g) := gb_trans (gb_drewN (gb_alloc (gb_refl wr (some g)) _) q) hgrow
        have HR : ClashR w 3 m a1 c1 a2 c2 d1 e1 d2 e2 f1 f2 g1 g2 (.slice (some ⟨g', 0, none⟩) (n + 1) cap) (.int .i64 ((j : Int) + 1)) w4 :=
          ⟨j + 1, g', cap, n + 1, xs ++ [(j : Int)], by omega, by go_num, rfl, by show (xs ++ [_]).length = _; rw [List.length_append, show xs.length = n from hlen]; rfl, by omega, hst, by rw [ints_snoc]; exact hown, h2.grown hsz hG (by omega) (by omega) (by omega), gb_bl hb hsz (by omega) hG⟩
        clear h2 hown hgrow hat hG x0 x1 y0 y1 HO T1 T2 T3 T4
        go_wp2
        go_roundw
        case rel => exact HR
        case measure => simp [intOf]; omega
    · obtain rfl : j = m := by omega
      have HR := Lib.hid (intsRes_of hlen.out hown (by omega) hb)
      have HX := Lib.hid hxs.out
      clear hown h2 x0 x1 y0 y1 t1 t2 t3 t4
      go_wp2
      go_ret
      rw [HX.out]
      exact HR.out
set_option maxHeartbeats 2000000 in
theorem iPathClash_no (a1 a2 d1 d2 : Option Addr) (n1 c1 n2 c2 m1 e1 m2 e2 : Nat) (f1 f2 g1 g2 : Nat → Int) (n : Int) (w : World) (r1 : Rn w w.heap.size a1 n1 f1) (r2 : Rn w w.heap.size a2 n2 f2) (s1 : Rn w w.heap.size d1 m1 g1) (s2 : Rn w w.heap.size d2 m2 g2)
    (hv : pathV n ⟨n1, f1, n2, f2⟩ = false ∨ pathV n ⟨m1, g1, m2, g2⟩ = false) :
    Calls Try.prog 34 #[.int .i64 n, .agg #[.slice a1 n1 c1, .slice a2 n2 c2], .agg #[.slice d1 m1 e1, .slice d2 m2 e2]] w (IntsRes w []) := by
  have R1 := Lib.hid (r1.top2 (.cells #[.slice a1 n1 c1, .slice a2 n2 c2] 31) (.cells #[.slice d1 m1 e1, .slice d2 m2 e2] 31))
  have R2 := Lib.hid (r2.top2 (.cells #[.slice a1 n1 c1, .slice a2 n2 c2] 31) (.cells #[.slice d1 m1 e1, .slice d2 m2 e2] 31))
  have S1 := Lib.hid (s1.top2 (.cells #[.slice a1 n1 c1, .slice a2 n2 c2] 31) (.cells #[.slice d1 m1 e1, .slice d2 m2 e2] 31))
  have S2 := Lib.hid (s2.top2 (.cells #[.slice a1 n1 c1, .slice a2 n2 c2] 31) (.cells #[.slice d1 m1 e1, .slice d2 m2 e2] 31))
  clear r1 r2 s1 s2
  cases hp : pathV n ⟨n1, f1, n2, f2⟩
  · have P := Lib.hid hp
    clear hv hp
    go_enter Try.func34, Try.ntmps34
    go_wp2_with fail
    refine (iValid_is false w.heap.size 0 a1 a2 n1 c1 n2 c2 f1 f2 n _ P.out ?_ ?_ R1.out R2.out).mono ?_
    · simp [go_sem]
    · simp [go_sem]
    rintro e w1 ⟨rfl, q1, rfl⟩
    go_wp2
    go_ret
    exact ⟨w.heap.size + 1 + 1, 0, rfl, ⟨by omega, by simp⟩, ⟨Nat.le_refl _, by unfold maxLen; simp⟩, Ow.nil _ _ _ _, (by go_grown <;> (refine below_dn ?_ _ <;> go_grown <;> (refine below_dn ?_ _ <;> go_grown)))⟩
  · have hq : pathV n ⟨m1, g1, m2, g2⟩ = false := by
      rcases hv with hv | hv
      · rw [hp] at hv; cases hv
      · exact hv
    have P := Lib.hid hp
    have Q := Lib.hid hq
    clear hv hp hq
    go_enter Try.func34, Try.ntmps34
    go_wp2_with fail
    refine (iValid_is true w.heap.size 0 a1 a2 n1 c1 n2 c2 f1 f2 n _ P.out ?_ ?_ R1.out R2.out).mono ?_
    · simp [go_sem]
    · simp [go_sem]
    rintro e w1 ⟨rfl, q1, rfl⟩
    go_wp2_with fail
    refine (iValid_is false (w.heap.size + 1) 0 d1 d2 m1 e1 m2 e2 g1 g2 n _ Q.out ?_ ?_ (S1.out.topq _) (S2.out.topq _)).mono ?_
    · simp [go_sem]
    · simp [go_sem]
    rintro e w1 ⟨rfl, q2, rfl⟩
    go_wp2
    go_ret
    exact ⟨w.heap.size + 1 + 1, 0, rfl, ⟨by omega, by simp⟩, ⟨Nat.le_refl _, by unfold maxLen; simp⟩, Ow.nil _ _ _ _, (by go_grown <;> (refine below_dn ?_ _ <;> go_grown <;> (refine below_dn ?_ _ <;> go_grown)))⟩
theorem iPathClash (a1 a2 d1 d2 : Option Addr) (n1 c1 n2 c2 m1 e1 m2 e2 : Nat) (f1 f2 g1 g2 : Nat → Int) (n : Int) (w : World) (r1 : Rn w w.heap.size a1 n1 f1) (r2 : Rn w w.heap.size a2 n2 f2) (s1 : Rn w w.heap.size d1 m1 g1) (s2 : Rn w w.heap.size d2 m2 g2) :
    Calls Try.prog 34 #[.int .i64 n, .agg #[.slice a1 n1 c1, .slice a2 n2 c2], .agg #[.slice d1 m1 e1, .slice d2 m2 e2]] w (IntsRes w (clashL n ⟨n1, f1, n2, f2⟩ ⟨m1, g1, m2, g2⟩)) := by
  cases hp : pathV n ⟨n1, f1, n2, f2⟩
  · rw [clashL_no1 hp]; exact iPathClash_no a1 a2 d1 d2 n1 c1 n2 c2 m1 e1 m2 e2 f1 f2 g1 g2 n w r1 r2 s1 s2 (.inl hp)
  cases hq : pathV n ⟨m1, g1, m2, g2⟩
  · rw [clashL_no2 hq]; exact iPathClash_no a1 a2 d1 d2 n1 c1 n2 c2 m1 e1 m2 e2 f1 f2 g1 g2 n w r1 r2 s1 s2 (.inr hq)
  rw [clashL_yes hp hq]
  have h1 := pathV_iff.1 hp
  have h2 := pathV_iff.1 hq
  obtain rfl : n = (n1 : Int) := h1.2.2.1.symm
  obtain rfl : n2 = n1 := by have : (n2 : Int) = (n1 : Int) := h1.2.2.2.1; omega
  obtain rfl : m1 = n2 := by have : (m1 : Int) = (n2 : Int) := h2.2.2.1; omega
  obtain rfl : m2 = m1 := by have : (m2 : Int) = (m1 : Int) := h2.2.2.2.1; omega
  rw [Int.toNat_natCast]
  exact iPathClash_yes a1 a2 d1 d2 m2 c1 c2 e1 e2 f1 f2 g1 g2 w r1 r2 s1 s2 hp hq
set_option maxHeartbeats 4000000 in
theorem sPathClash_yes (a1 a2 d1 d2 : Option Addr) (m c1 c2 e1 e2 : Nat) (f1 f2 g1 g2 : Nat → Int) (w : World) (r1 : Rn w w.heap.size a1 m f1) (r2 : Rn w w.heap.size a2 m f2) (s1 : Rn w w.heap.size d1 m g1) (s2 : Rn w w.heap.size d2 m g2)
    (hp : pathV m ⟨m, f1, m, f2⟩ = true) (hq : pathV m ⟨m, g1, m, g2⟩ = true) :
    Calls Try.prog 35 #[.int .i64 (m : Int), .agg #[.slice a1 m c1, .slice a2 m c2], .agg #[.slice d1 m e1, .slice d2 m e2]] w (IntsRes w (clashT ⟨m, f1, m, f2⟩ ⟨m, g1, m, g2⟩ m)) := by
  obtain ⟨i0, ji0, jz0, jz1, jz2⟩ := info_parts intInfo
  have hm := pathV_iff.1 hp
  have hm1 : 1 ≤ m ∧ m ≤ 5 := by omega
  have J := Lib.hid (And.intro ji0 (And.intro jz0 (And.intro jz1 jz2)))
  have P := Lib.hid hp
  have Q := Lib.hid hq
  have h2 : TwoP ((w.alloc (.cells #[.slice a1 m c1, .slice a2 m c2] 31)).alloc (.cells #[.slice d1 m e1, .slice d2 m e2] 31)) w.heap.size w.heap.size (w.heap.size + 1) a1 c1 a2 c2 d1 e1 d2 e2 ⟨m, f1, m, f2⟩ ⟨m, g1, m, g2⟩ :=
    ⟨(Bx.new w [.slice a1 m c1, .slice a2 m c2] _).alloc _, by have h := Bx.new (w.alloc (.cells #[.slice a1 m c1, .slice a2 m c2] 31)) [.slice d1 m e1, .slice d2 m e2] 31; simpa using h,
      (r1.alloc (Nat.le_refl _) _).alloc (by simp) _, (r2.alloc (Nat.le_refl _) _).alloc (by simp) _, (s1.alloc (Nat.le_refl _) _).alloc (by simp) _, (s2.alloc (Nat.le_refl _) _).alloc (by simp) _⟩
  have o0 := World.ownsRow_made (base := w.heap.size + 2) (size := 1) (e := 3) ((w.alloc (.cells #[.slice a1 m c1, .slice a2 m c2] 31)).alloc (.cells #[.slice d1 m e1, .slice d2 m e2] 31)) #[] 0 (by simp) (by unfold maxLen; omega) (by simp)
  have h3 := h2.alloc (by simp; omega) (.cells #[] 3)
  have O := Lib.hid o0
  clear hm ji0 jz0 jz1 jz2 hp hq r1 r2 s1 s2 h2 o0
  go_enter Try.func35, Try.ntmps35
  go_wp2
  go_loopw [7, 8] (fun v i wr => ClashR w 3 m a1 c1 a2 c2 d1 e1 d2 e2 f1 f2 g1 g2 v i wr) (fun _ i _ => m - (intOf i).toNat)
  case atStart => exact ⟨0, w.heap.size + 1 + 1, 0, 0, [], Nat.zero_le _, rfl, rfl, rfl, Nat.le_refl _, rfl, by have := O.out; simp only [World.size_alloc] at this; exact this, h3, (by go_grown <;> (refine below_dn ?_ _ <;> go_grown <;> (refine below_dn ?_ _ <;> go_grown)))⟩
  case round =>
    clear h3 O
    obtain ⟨ji0, jz0, jz1, jz2⟩ := J.out
    obtain ⟨j, g, cp, n, xs, hj, rfl, rfl, hlen, hnj, hxs, hown, h2, hb⟩ := hrel
    obtain ⟨⟨x0, x1⟩, y0, y1⟩ := h2.cells
    obtain ⟨_, _, t1, t2, t3, t4⟩ := id h2
    have hsz := hb.size
    by_cases hlt : j < m
    · go_wp2_with fail
      refine (sValid_is true a1 a2 m c1 m c2 f1 f2 m _ P.out (t1.up hsz) (t2.up hsz)).mono ?_
      rintro e w1 ⟨rfl, hn⟩
      have h2 := h2.call hsz hn
      have hown := hown.kept (row := none) ⟨hn.os, hn.tape, hn.output, hn.size, fun k hk _ => hn.block k hk⟩ (by simp [Value.ownBlock])
      have hb1 := bl hb (Nat.le_refl _) hn
      clear hn hb x0 x1 y0 y1 t1 t2 t3 t4
      obtain ⟨⟨x0, x1⟩, y0, y1⟩ := h2.cells
      obtain ⟨_, _, t1, t2, t3, t4⟩ := id h2
      have hsz1 := hb1.size
      go_wp2_with fail
      refine (sValid_is true d1 d2 m e1 m e2 g1 g2 m _ Q.out (t3.up hsz1) (t4.up hsz1)).mono ?_
      rintro e w2 ⟨rfl, hn⟩
      have h2 := h2.call hsz1 hn
      have hown := hown.kept (row := none) ⟨hn.os, hn.tape, hn.output, hn.size, fun k hk _ => hn.block k hk⟩ (by simp [Value.ownBlock])
      have hb2 := bl hb1 (Nat.le_refl _) hn
      clear hn hb1 x0 x1 y0 y1 t1 t2 t3 t4
      obtain ⟨⟨x0, x1⟩, y0, y1⟩ := h2.cells
      obtain ⟨_, _, t1, t2, t3, t4⟩ := id h2
      have hsz2 := hb2.size
      go_wp2_with fail
      refine (sClash a1 a2 d1 d2 m c1 m c2 m e1 m e2 f1 f2 g1 g2 j _ (t1.up hsz2) (t2.up hsz2) (t3.up hsz2) (t4.up hsz2) ⟨hlt, hlt, hlt, hlt⟩).mono ?_
      rintro e w3 ⟨rfl, hn⟩
      have h2 := h2.call hsz2 hn
      have hown := hown.kept (row := none) ⟨hn.os, hn.tape, hn.output, hn.size, fun k hk _ => hn.block k hk⟩ (by simp [Value.ownBlock])
      have hb3 := bl hb2 (Nat.le_refl _) hn
      clear hn hb2 x0 x1 y0 y1 t1 t2 t3 t4
      have hsz3 := hb3.size
      cases hc : clash ⟨m, f1, m, f2⟩ ⟨m, g1, m, g2⟩ j
      · have hst : Hid (clashT ⟨m, f1, m, f2⟩ ⟨m, g1, m, g2⟩ (j + 1) = xs) := (clashT_no hc).trans hxs
        have HR : ClashR w 3 m a1 c1 a2 c2 d1 e1 d2 e2 f1 f2 g1 g2 (.slice (some ⟨g, 0, none⟩) n cp) (.int .i64 ((j : Int) + 1)) w3 := ⟨j + 1, g, cp, n, xs, by omega, by go_num, rfl, hlen, by omega, hst, hown, h2, hb3⟩
        clear h2 hown hc
        go_wp2
        go_roundw
        case rel => exact HR
        case measure => simp [intOf]; omega
      · have hst : Hid (clashT ⟨m, f1, m, f2⟩ ⟨m, g1, m, g2⟩ (j + 1) = xs ++ [(j : Int)]) := (clashT_yes hc).trans (by rw [show clashT _ _ j = xs from hxs])
        have hl := (hown.lt g rfl).2
        have hgb := (owns_cap hown).2.2
        have HO := Lib.hid hown
        clear hc hown
        go_wp2_with (at_builtin; refine wpList_append_lies _ rfl _ _ _ rfl (w.heap.size + 2) 3 i0 (.int .i64 0) 1 8 Try.underlying27 ji0 jz0 jz1 jz2 rfl (by omega) _ n (ints xs) rfl (HO.out.alloc _) ⟨w3.heap.size, 0, none⟩ 1 1 [.int .i64 (j : Int)] rfl rfl ?c1 ?c2 (by omega) ?c3 ?c4 ?c5 (w3.heap.size + 1) ?c6 ?_)
        case c1 => exact World.news_of_block (cs := #[.int .i64 (j : Int)]) (t := 3) (fr := (0, 0)) (heap_alloc_new w3 _)
        case c2 => simp [Value.oneCell']
        case c3 => unfold maxLen; omega
        case c4 => omega
        case c5 => simp; omega
        case c6 => simp
        intro g' cap w4 hown hgrow hat hlt4
        have hG : w3.grownBy w4 (some g) := gb_trans (gb_alloc (gb_refl w3 (some g)) _) hgrow
        have HR : ClashR w 3 m a1 c1 a2 c2 d1 e1 d2 e2 f1 f2 g1 g2 (.slice (some ⟨g', 0, none⟩) (n + 1) cap) (.int .i64 ((j : Int) + 1)) w4 :=
          ⟨j + 1, g', cap, n + 1, xs ++ [(j : Int)], by omega, by go_num, rfl, by show (xs ++ [_]).length = _; rw [List.length_append, show xs.length = n from hlen]; rfl, by omega, hst, by rw [ints_snoc]; exact hown, h2.grown hsz3 hG (by omega) (by omega) (by omega), gb_bl hb3 hsz3 (by omega) hG⟩
        clear h2 hown hgrow hat hG HO
        go_wp2
        go_roundw
        case rel => exact HR
        case measure => simp [intOf]; omega
    · obtain rfl : j = m := by omega
      have HR := Lib.hid (intsRes_of hlen.out hown (by omega) hb)
      have HX := Lib.hid hxs.out
      clear hown h2 x0 x1 y0 y1 t1 t2 t3 t4
      go_wp2
      go_ret
      rw [HX.out]
      exact HR.out
set_option maxHeartbeats 2000000 in
theorem sPathClash_no (a1 a2 d1 d2 : Option Addr) (n1 c1 n2 c2 m1 e1 m2 e2 : Nat) (f1 f2 g1 g2 : Nat → Int) (n : Int) (w : World) (r1 : Rn w w.heap.size a1 n1 f1) (r2 : Rn w w.heap.size a2 n2 f2) (s1 : Rn w w.heap.size d1 m1 g1) (s2 : Rn w w.heap.size d2 m2 g2)
    (hv : pathV n ⟨n1, f1, n2, f2⟩ = false ∨ pathV n ⟨m1, g1, m2, g2⟩ = false) :
    Calls Try.prog 35 #[.int .i64 n, .agg #[.slice a1 n1 c1, .slice a2 n2 c2], .agg #[.slice d1 m1 e1, .slice d2 m2 e2]] w (IntsRes w []) := by
  have hx : TwoP (((w.alloc (.cells #[.slice a1 n1 c1, .slice a2 n2 c2] 31)).alloc (.cells #[.slice d1 m1 e1, .slice d2 m2 e2] 31)).alloc (.cells #[] 3)) w.heap.size w.heap.size (w.heap.size + 1) a1 c1 a2 c2 d1 e1 d2 e2 ⟨n1, f1, n2, f2⟩ ⟨m1, g1, m2, g2⟩ :=
    TwoP.alloc ⟨(Bx.new w [.slice a1 n1 c1, .slice a2 n2 c2] _).alloc _, by have h := Bx.new (w.alloc (.cells #[.slice a1 n1 c1, .slice a2 n2 c2] 31)) [.slice d1 m1 e1, .slice d2 m2 e2] 31; simpa using h,
      (r1.alloc (Nat.le_refl _) _).alloc (by simp) _, (r2.alloc (Nat.le_refl _) _).alloc (by simp) _, (s1.alloc (Nat.le_refl _) _).alloc (by simp) _, (s2.alloc (Nat.le_refl _) _).alloc (by simp) _⟩ (by simp; omega) _
  have hb0 : Below w.heap.size w (((w.alloc (.cells #[.slice a1 n1 c1, .slice a2 n2 c2] 31)).alloc (.cells #[.slice d1 m1 e1, .slice d2 m2 e2] 31)).alloc (.cells #[] 3)) := by go_grown
  have hz0 : w.heap.size + 1 + 1 < (((w.alloc (.cells #[.slice a1 n1 c1, .slice a2 n2 c2] 31)).alloc (.cells #[.slice d1 m1 e1, .slice d2 m2 e2] 31)).alloc (.cells #[] 3)).heap.size := by simp
  clear r1 r2 s1 s2
  go_enter Try.func35, Try.ntmps35
  go_wp2
  go_loopw [7, 8] (fun v i wr => i = .int .i64 0 ∧ v = .slice (some ⟨w.heap.size + 1 + 1, 0, none⟩) 0 0 ∧ TwoP wr w.heap.size w.heap.size (w.heap.size + 1) a1 c1 a2 c2 d1 e1 d2 e2 ⟨n1, f1, n2, f2⟩ ⟨m1, g1, m2, g2⟩ ∧ Below w.heap.size w wr ∧ w.heap.size + 1 + 1 < wr.heap.size) (fun _ i _ => 0)
  case atStart => exact ⟨rfl, rfl, hx, hb0, hz0⟩
  case round =>
    clear hx hb0 hz0
    obtain ⟨rfl, rfl, h2, hb, hz⟩ := hrel
    obtain ⟨⟨x0, x1⟩, y0, y1⟩ := h2.cells
    obtain ⟨_, _, t1, t2, t3, t4⟩ := id h2
    have hsz := hb.size
    by_cases hn0 : 0 < n
    · cases hp : pathV n ⟨n1, f1, n2, f2⟩
      · have P := Lib.hid hp
        clear hv hp
        go_wp2_with fail
        refine (sValid_is false a1 a2 n1 c1 n2 c2 f1 f2 n _ P.out (t1.up hsz) (t2.up hsz)).mono ?_
        rintro e w1 ⟨rfl, hn⟩
        have hb1 := bl hb (Nat.le_refl _) hn
        have hz1 := hn.size
        clear hn
        go_wp2
        go_ret
        exact ⟨w.heap.size + 1 + 1, 0, rfl, ⟨by omega, by omega⟩, ⟨Nat.le_refl _, by unfold maxLen; simp⟩, Ow.nil _ _ _ _, hb1⟩
      · have hq : pathV n ⟨m1, g1, m2, g2⟩ = false := by
          rcases hv with hv | hv
          · rw [hp] at hv; cases hv
          · exact hv
        have P := Lib.hid hp
        have Q := Lib.hid hq
        clear hv hp hq
        go_wp2_with fail
        refine (sValid_is true a1 a2 n1 c1 n2 c2 f1 f2 n _ P.out (t1.up hsz) (t2.up hsz)).mono ?_
        rintro e w1 ⟨rfl, hn⟩
        have h2 := h2.call hsz hn
        have hb1 := bl hb (Nat.le_refl _) hn
        have hz1 := hn.size
        clear hn hb x0 x1 y0 y1 t1 t2 t3 t4
        obtain ⟨⟨x0, x1⟩, y0, y1⟩ := h2.cells
        obtain ⟨_, _, t1, t2, t3, t4⟩ := id h2
        have hsz1 := hb1.size
        go_wp2_with fail
        refine (sValid_is false d1 d2 m1 e1 m2 e2 g1 g2 n _ Q.out (t3.up hsz1) (t4.up hsz1)).mono ?_
        rintro e w2 ⟨rfl, hn⟩
        have hb2 := bl hb1 (Nat.le_refl _) hn
        have hz2 := hn.size
        clear hn
        go_wp2
        go_ret
        exact ⟨w.heap.size + 1 + 1, 0, rfl, ⟨by omega, by omega⟩, ⟨Nat.le_refl _, by unfold maxLen; simp⟩, Ow.nil _ _ _ _, hb2⟩
    · have hd : decide (0 < n) = false := decide_eq_false hn0
      clear hv h2 x0 x1 y0 y1 t1 t2 t3 t4
      go_wp2
      go_ret
      exact ⟨w.heap.size + 1 + 1, 0, rfl, ⟨by omega, by omega⟩, ⟨Nat.le_refl _, by unfold maxLen; simp⟩, Ow.nil _ _ _ _, hb⟩
theorem sPathClash (a1 a2 d1 d2 : Option Addr) (n1 c1 n2 c2 m1 e1 m2 e2 : Nat) (f1 f2 g1 g2 : Nat → Int) (n : Int) (w : World) (r1 : Rn w w.heap.size a1 n1 f1) (r2 : Rn w w.heap.size a2 n2 f2) (s1 : Rn w w.heap.size d1 m1 g1) (s2 : Rn w w.heap.size d2 m2 g2) :
    Calls Try.prog 35 #[.int .i64 n, .agg #[.slice a1 n1 c1, .slice a2 n2 c2], .agg #[.slice d1 m1 e1, .slice d2 m2 e2]] w (IntsRes w (clashL n ⟨n1, f1, n2, f2⟩ ⟨m1, g1, m2, g2⟩)) := by
  cases hp : pathV n ⟨n1, f1, n2, f2⟩
  · rw [clashL_no1 hp]; exact sPathClash_no a1 a2 d1 d2 n1 c1 n2 c2 m1 e1 m2 e2 f1 f2 g1 g2 n w r1 r2 s1 s2 (.inl hp)
  cases hq : pathV n ⟨m1, g1, m2, g2⟩
  · rw [clashL_no2 hq]; exact sPathClash_no a1 a2 d1 d2 n1 c1 n2 c2 m1 e1 m2 e2 f1 f2 g1 g2 n w r1 r2 s1 s2 (.inr hq)
  rw [clashL_yes hp hq]
  have h1 := pathV_iff.1 hp
  have h2 := pathV_iff.1 hq
  obtain rfl : n = (n1 : Int) := h1.2.2.1.symm
  obtain rfl : n2 = n1 := by have : (n2 : Int) = (n1 : Int) := h1.2.2.2.1; omega
  obtain rfl : m1 = n2 := by have : (m1 : Int) = (n2 : Int) := h2.2.2.1; omega
  obtain rfl : m2 = m1 := by have : (m2 : Int) = (m1 : Int) := h2.2.2.2.1; omega
  rw [Int.toNat_natCast]
  exact sPathClash_yes a1 a2 d1 d2 m2 c1 c2 e1 e2 f1 f2 g1 g2 w r1 r2 s1 s2 hp hq
end Go.Proofs.Ytjppkcfbhhjniaa
