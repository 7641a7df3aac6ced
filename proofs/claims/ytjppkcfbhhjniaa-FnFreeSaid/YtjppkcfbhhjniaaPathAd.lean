/-
  Contracts of PathsAdd.
-/
import Derived.Test.YtjppkcfbhhjniaaPathGr
import Derived.Test.YtjppkcfbhhjniaaK1
import Derived.Test.YtjppkcfbhhjniaaPathFm
namespace Go.Proofs.Ytjppkcfbhhjniaa
open Go.RowKit Go.Deep
set_option linter.unusedVariables false

theorem ow_blk {w : World} {g n : Nat} {T : TypeId} {cs : Array Value} {f : Nat → Int} (hb : w.heap[g]? = some (.cells cs T (0, 0))) (hc : ∀ i, i < n → cs[i]? = some (.int .i64 (f i))) : Ow w g (some ⟨g, 0, none⟩) n f :=
  fun _ => ⟨0, rfl, lt_of_block hb, fun i => by simp [World.frozen?, hb], fun i hi => by simp [World.cell?, hb, hc i hi]⟩
/-- append of something to an empty slice, at a step of a region that draws its order. -/
theorem step_fresh {P : Program} {w w0 : World} {ops : Array Oper} {o : Oper} {a : Act} {K : Act → World → Prop} {Q : Exit → Act → World → Prop} {E : Prop} (hgd : o.guard = none) (s x : Operand) (t : TypeId)
    (ho : o.op = .call { callee := .builtin .append, args := #[s, x], argTypes := #[t, t] })
    (e : TypeId) (i : TypeInfo) (ht : P.underlying t = some (.slice e)) (hi : P.info? e = some i) (hz : i.zero = some (.int .i64 0)) (hsize : i.size = 1) (hby : i.bytes = 8)
    (g0 : Nat) (hs : a.eval s = .slice (some ⟨g0, 0, none⟩) 0 0) (A : Option Addr) (m c : Nat) (f : Nat → Int) (hx : a.eval x = .slice A m c)
    (hR : Rn w0 w0.heap.size A m f) (hb : Below w0.heap.size w0 w) (hm : 0 < m) (hm2 : m ≤ 1048576)
    (h : ∀ g cap w', w.heap.size ≤ g → g < w'.heap.size → Ow w' g (some ⟨g, 0, none⟩) m f → Below w.heap.size w w' → K (a.put o.dst (.slice (some ⟨g, 0, none⟩) m cap)) w') :
    if Region.wanted o (yielded ops a.tmps) = true then Oper.wp P o a w K Q else E := by
  have hw : Region.wanted o (yielded ops a.tmps) = true := by simp [Region.wanted, hgd]
  rw [if_pos hw]
  obtain ⟨b, off, rfl, hbB, hc⟩ := (hR.below hb) hm
  have hr := run_append_grow (P := P) w t o.type e i (.int .i64 0) ht hi hz ⟨g0, 0, none⟩ 0 0 [] (by simp) (by simp) ⟨b, off, none⟩ m c (cellsN m f) (by rw [cellsN_len, hsize]; omega) (cellsN_of hc) (by omega) (by omega) (by rw [hby, Nat.zero_add, nextslicecap_zero hm]; omega)
  rw [Nat.zero_add] at hr
  unfold Oper.wp execOp
  simp only [ho, resolve, invoke, builtin, Sem.run_bind, Sem.run_pure, Result.andThen_ok, List.map_toArray, List.map_cons, List.map_nil, hs, hx, hr]
  refine h w.heap.size _ _ (Nat.le_refl _) (by simp) ?_ ((Below.refl w.heap.size w).drew.alloc (by simp) _)
  refine ow_blk (blk_alloc_new w.drew _) fun j hj => ?_
  have h1 := cellsN_at (f := f) hj
  have h2 := cellsN_len m f
  simp only [List.size_toArray, Array.getElem?_append, Array.size_append, List.length_nil, Nat.zero_add, h2, hj, if_true, List.getElem?_toArray, Nat.not_lt_zero, if_false, Nat.sub_zero, h1]
theorem owns_base {w : World} {base base' e n s : Nat} {v : Value} {xs : List Value} (h : w.ownsRow base e s v n xs) (hb : base' ≤ base) : w.ownsRow base' e s v n xs := by
  obtain ⟨h0, h1⟩ := h
  refine ⟨h0, ?_⟩
  rcases h1 with h1 | ⟨g, cap, cur, h2, h3, h4⟩
  · exact .inl h1
  · exact .inr ⟨g, cap, cur, h2, by omega, h4⟩
/-- Some paths and a yes or a no. -/
def AddRes (w : World) (T : TypeId) (ok : Bool) (k : Nat) (D : Nat → PD) (e : Ending) (w' : World) : Prop :=
  ∃ g c : Nat, e = .returned (.tuple #[.slice (some ⟨g, 0, none⟩) k c, .bool ok]) ∧ PsGr w' T w.heap.size w'.heap.size g k c D ∧ Below w.heap.size w w'
def AddPost (w : World) (T : TypeId) (m : Nat) (D : Nat → PD) (p : PD) (e : Ending) (w' : World) : Prop := (m < 8 ∧ AddRes w T true (m + 1) (addD D m p) e w') ∨ (m = 8 ∧ AddRes w T false 0 D e w')
theorem gr_none {w : World} {T : TypeId} {lo g : Nat} (D : Nat → PD) (hlo : lo ≤ w.heap.size) (hg : w.heap.size = g) : PsGr (w.alloc (.cells #[] T)) T lo (w.alloc (.cells #[] T)).heap.size g 0 0 D := by
  subst hg
  exact ⟨_, [], PsG0.start _ _ ⟨hlo, by simp⟩, World.ownsRow_made w #[] 0 hlo (by unfold maxLen; omega) (by simp)⟩
/-- Between two rounds: W is the world before, lo its size. -/
def AddR (W : World) (T : TypeId) (m : Nat) (D : Nat → PD) (out i : Value) (wr : World) : Prop :=
  ∃ (j g c : Nat) (G : Nat → Nat) (xs : List Value), j ≤ m ∧ i = .int .i64 j ∧ out = .slice (some ⟨g, 0, none⟩) j c ∧ PsG0 wr W.heap.size wr.heap.size g j D G xs ∧ wr.ownsRow W.heap.size T 2 (.slice (some ⟨g, 0, none⟩) j c) j xs ∧ Below W.heap.size W wr
theorem addR_step {W w2 w3 : World} {T : TypeId} {m j g hi : Nat} {D : Nat → PD} {G : Nat → Nat} {xs : List Value} {n1 n2 g1 k1 g2 k2 g3 k3 : Nat} {f1 f2 : Nat → Int} {o : Obj}
    (hlt : j < m) (hD : D j = ⟨n1, f1, n2, f2⟩) (hp : PsG0 w2 W.heap.size hi g j D G xs) (hhi : hi ≤ w2.heap.size) (hb : Below W.heap.size W w2) (hg1 : hi ≤ g1 ∧ g1 < w2.heap.size) (hg2 : hi ≤ g2 ∧ g2 < w2.heap.size) (hne : g1 ≠ g2)
    (o1 : Ow w2 g1 (some ⟨g1, 0, none⟩) n1 f1) (o2 : Ow w2 g2 (some ⟨g2, 0, none⟩) n2 f2)
    (hown : w3.ownsRow W.heap.size T 2 (.slice (some ⟨g3, 0, none⟩) (j + 1) k3) (j + 1) (xs ++ [.slice (some ⟨g1, 0, none⟩) n1 k1, .slice (some ⟨g2, 0, none⟩) n2 k2])) (hgr : (w2.alloc o).grownBy w3 (some g)) (hat : g3 = g ∨ g3 = w2.heap.size + 1) (hg3 : g3 < w3.heap.size) :
    AddR W T m D (.slice (some ⟨g3, 0, none⟩) (j + 1) k3) (.int .i64 ((j : Int) + 1)) w3 := by
  have hs := hgr.size
  simp only [World.size_alloc] at hs
  have hbs := hb.size
  have hgg := hp.gr
  have hp2 := (hp.alloc hhi o).put hgr (lo' := W.heap.size) (hi' := w3.heap.size) (g' := g3) (c1 := k1) (c2 := k2) hD ⟨by omega, by omega, .inl hg1.1⟩ ⟨by omega, by omega, .inl hg2.1⟩ hne (by omega) (Nat.le_refl _) (by omega) (o1.alloc o) (o2.alloc o)
  exact ⟨j + 1, g3, k3, _, _, by omega, by go_num, rfl, hp2, hown, (hb.alloc hbs o).grown hgr (by simp; omega) (fun k e => by injection e with e; omega)⟩
theorem addR_last {w w2 w3 : World} {T : TypeId} {m g lo hi : Nat} {D : Nat → PD} {G : Nat → Nat} {xs : List Value} {n1 n2 b1 b2 k1 k2 g3 k3 : Nat} {a1 a2 : Option Addr} {f1 f2 : Nat → Int} {o : Obj}
    (hD : D m = ⟨n1, f1, n2, f2⟩) (hp : PsG0 w2 lo hi g m D G xs) (hhi : hi ≤ w2.heap.size) (hb : Below w.heap.size w w2) (hlo : w.heap.size ≤ lo) (hb1 : w.heap.size ≤ b1 ∧ b1 < lo) (hb2 : w.heap.size ≤ b2 ∧ b2 < lo) (hne : b1 ≠ b2)
    (o1 : Ow w2 b1 a1 n1 f1) (o2 : Ow w2 b2 a2 n2 f2)
    (hown : w3.ownsRow lo T 2 (.slice (some ⟨g3, 0, none⟩) (m + 1) k3) (m + 1) (xs ++ [.slice a1 n1 k1, .slice a2 n2 k2])) (hgr : (w2.alloc o).grownBy w3 (some g)) (hat : g3 = g ∨ g3 = w2.heap.size + 1) (hg3 : g3 < w3.heap.size) :
    PsGr w3 T w.heap.size w3.heap.size g3 (m + 1) k3 D ∧ Below w.heap.size w w3 := by
  have hs := hgr.size
  simp only [World.size_alloc] at hs
  have hgg := hp.gr
  have hbs := hb.size
  have hp2 := (hp.alloc hhi o).put hgr (lo' := w.heap.size) (hi' := w3.heap.size) (g' := g3) (c1 := k1) (c2 := k2) hD ⟨hb1.1, by omega, .inr hb1.2⟩ ⟨hb2.1, by omega, .inr hb2.2⟩ hne (by omega) hlo (by omega) (o1.alloc o) (o2.alloc o)
  exact ⟨⟨_, _, hp2, owns_base hown hlo⟩, (hb.alloc hbs o).grown hgr (by simp; omega) (fun k e => by injection e with e; omega)⟩
theorem addR_start {W : World} {T : TypeId} {m : Nat} {D : Nat → PD} (cap : Nat) (cs : Array Value) (hcs : cs.size = cap * 2) (hcap : cap ≤ 1000) : AddR W T m D (.slice (some ⟨W.heap.size, 0, none⟩) 0 cap) (.int .i64 0) (W.alloc (.cells cs T)) :=
  ⟨0, W.heap.size, cap, _, [], Nat.zero_le _, rfl, rfl, PsG0.start _ _ ⟨Nat.le_refl _, by simp⟩, World.ownsRow_made W cs cap (Nat.le_refl _) (by unfold maxLen; omega) hcs, (Below.refl _ _).alloc (Nat.le_refl _) _⟩
section
variable {m r frm : Nat} {D : Nat → PD} {p : PD}
theorem addD_lt {D : Nat → PD} {m i : Nat} {p : PD} (h : i < m) : addD D m p i = D i := if_neg (by omega)
theorem addD_at {D : Nat → PD} {m : Nat} {p : PD} : addD D m p m = p := if_pos rfl
end
set_option maxHeartbeats 4000000 in
theorem iAdd_go (A : Option Addr) (m c : Nat) (D : Nat → PD) (R : Option Addr) (r d : Nat) (n frm : Int) (f1 f2 : Nat → Int) (w : World) (h : PsRn w w.heap.size A m D) (hv : pathsV n D m = true) (hr1 : 0 < r ∧ r ≤ 5)
    (hF : Calls Try.prog 42 #[.int .i64 n, .slice A m c, .int .i64 frm, .slice R r d] w (PathRes w true r f1 r f2)) :
    Calls Try.prog 24 #[.int .i64 n, .slice A m c, .int .i64 frm, .slice R r d] w (AddPost w 31 m D ⟨r, f1, r, f2⟩) := by
  obtain ⟨p0, pi0, pz0, pz1, pz2⟩ := info_parts pathInfo
  have hm8 : m ≤ 8 := (pathsV_iff.1 hv).2.2.1
  have hmk := fun W : World => run_make (P := Try.prog) W 23 31 p0 (.agg #[.slice none 0 0, .slice none 0 0]) Try.underlying23 pi0 pz0 .i64 .i64 0 (m + 1) (by omega) (by omega) (by rw [pz2]; omega) (by omega)
  simp only [pz1] at hmk
  have PV := Lib.hid hv
  have P0 := Lib.hid h
  have HF := Lib.hid hF
  clear hv h hF
  by_cases h8 : m = 8
  · subst h8
    have d8 : (((8 : Nat) : Int) == 8) = true := rfl
    clear hmk
    go_enter Try.func24, Try.ntmps24
    go_wp2_with fail
    refine HF.out.mono ?_
    rintro e w1 ⟨a1, k1, a2, k2, rfl, ho, hn⟩
    have hs := hn.size
    clear ho
    go_wp2
    go_ret2
    exact .inr ⟨rfl, _, 0, rfl, gr_none _ (by simp; omega) (by simp), by go_grown⟩
  · have d8 : ((m : Int) == 8) = false := beq_eq_false_iff_ne.2 (by omega)
    have hm7 : m < 8 := by omega
    clear h8
    go_enter Try.func24, Try.ntmps24
    go_wp2_with fail
    refine HF.out.mono ?_
    rintro e w1 ⟨a1, k1, a2, k2, rfl, ⟨b1, b2, hb1, hb2, hne, o1, o2⟩, hn⟩
    have hs := hn.size
    have hb1 := hb1 hr1.1
    have hb2 := hb2 hr1.1
    have hx := Bx.new w1 [.slice a1 r k1, .slice a2 r k2] 31
    have O1 := Lib.hid (o1.alloc (.cells #[.slice a1 r k1, .slice a2 r k2] 31))
    have O2 := Lib.hid (o2.alloc (.cells #[.slice a1 r k1, .slice a2 r k2] 31))
    have hb : Below w.heap.size w (w1.alloc (.cells #[.slice a1 r k1, .slice a2 r k2] 31)) := by go_grown
    clear o1 o2 hn
    go_wp2_with fail
    generalize hW : w1.alloc (.cells #[.slice a1 r k1, .slice a2 r k2] 31) = W at *
    have hWs : w1.heap.size + 1 = W.heap.size := by rw [← hW]; simp
    have HWS := Lib.hid hWs
    have hWl : w1.heap.size < W.heap.size := by omega
    rw [hWs] at *
    clear hW hmk hWs
    have X := Lib.hid hx
    clear hx
    go_loopw [12, 36] (fun out i wr => AddR W 31 m (addD D m ⟨r, f1, r, f2⟩) out i wr) (fun _ i _ => m - (intOf i).toNat)
    case atStart => exact addR_start _ _ (by simp [madeCells]) (by omega)
    case round =>
      obtain ⟨j, g, cp, G, xs, hj, rfl, rfl, hp, hown, hbr⟩ := hrel
      have hsr := hbr.size
      have HP := Lib.hid hp
      have HO := Lib.hid hown
      have hcap := owns_cap hown
      clear hp hown
      by_cases hlt : j < m
      · obtain ⟨b, off, e1, c1, e2, c2, n1, h1, n2, h2, rfl, hbB, hD, x0, x1, q1, q2⟩ := (P0.out.below (hb.trans (hbr.mono hb.size))).at_ hlt
        have hat := pathsV_at PV.out hlt
        rw [hD] at hat
        obtain ⟨l1, l2, -⟩ := hat
        simp only at l1 l2
        have hn5 : 1 ≤ n ∧ n ≤ 5 := by have := pathsV_iff.1 PV.out; omega
        have hDE := Lib.hid (show addD D m ⟨r, f1, r, f2⟩ j = ⟨n1, h1, n2, h2⟩ from (addD_lt hlt).trans hD)
        have j0 : (0 : Int) ≤ (j : Int) := by omega
        have j1 : (j : Int) < (m : Int) := by omega
        have hbwr : w.heap.size ≤ wr.heap.size := by omega
        clear hD
        go_wp2_with fail
        refine (copied_any b (off + j * 2) e1 e2 n1 c1 n2 c2 h1 h2 _ x0 x1 (by omega) (q1.up hbwr) (q2.up hbwr) ⟨by omega, by omega⟩ ⟨by omega, by omega⟩).mono ?_
        rintro e w2 ⟨g1, z1, g2, z2, rfl, hg1, hg2, hgne, o1, o2, hn⟩
        have hs2 := hn.size
        have hbr2 := bl hbr (Nat.le_refl _) hn
        have HP2 := Lib.hid (HP.out.call (Nat.le_refl _) hn)
        have HO2 := Lib.hid (owns_call HO.out hn)
        have Q1 := Lib.hid o1
        have Q2 := Lib.hid o2
        clear hn x0 x1 q1 q2 o1 o2 HP HO
        go_wp2_with (at_builtin; refine wpList_append_lies _ rfl _ _ _ rfl W.heap.size 31 p0 (.agg #[.slice none 0 0, .slice none 0 0]) 2 48 Try.underlying23 pi0 pz0 pz1 pz2 rfl (by omega) (.slice (some ⟨g, 0, none⟩) j cp) j xs rfl (HO2.out.alloc _) ⟨w2.heap.size, 0, none⟩ 1 1 [.slice (some ⟨g1, 0, none⟩) n1 z1, .slice (some ⟨g2, 0, none⟩) n2 z2] rfl rfl ?c1 ?c2 (by omega) ?c3 ?c4 ?c5 (w2.heap.size + 1) ?c6 ?_)
        case c1 => exact World.news_of_block (cs := #[.slice (some ⟨g1, 0, none⟩) n1 z1, .slice (some ⟨g2, 0, none⟩) n2 z2]) (t := 31) (fr := (0, 0)) (heap_alloc_new w2 _)
        case c2 => simp [Value.oneCell']
        case c3 => unfold maxLen; omega
        case c4 => omega
        case c5 => simp; omega
        case c6 => simp
        intro g3 k3 w3 hown3 hg3 hat3 hlt3
        have hg3 : (w2.alloc (.cells #[.slice (some ⟨g1, 0, none⟩) n1 z1, .slice (some ⟨g2, 0, none⟩) n2 z2] 31)).grownBy w3 (some g) := hg3
        have hat3 : g3 = g ∨ g3 = w2.heap.size + 1 := by rcases hat3 with h | h; (simp [Value.ownBlock] at h; exact .inl h.symm); exact .inr h
        have HH := addR_step hlt hDE.out HP2.out (by omega) hbr2 hg1 hg2 hgne Q1.out Q2.out hown3 hg3 hat3 hlt3
        clear hown3 hg3 hat3 HP2 HO2 Q1 Q2 hbr2 hbr
        go_wp2_with fail
        go_roundw
        case rel => exact HH
        case measure => simp [intOf]; omega
      · obtain rfl : j = m := by omega
        have hx := X.out.below hbr hWl
        have c0 := hx.cell (i := 0) (by simp)
        have c1 := hx.cell (i := 1) (by simp)
        simp only [List.getElem_cons_zero, List.getElem_cons_succ] at c0 c1
        have Q1 := Lib.hid (O1.out.call hbr)
        have Q2 := Lib.hid (O2.out.call hbr)
        have hbw := bl hb (Nat.le_refl _) hbr
        clear hx hb
        go_wp2_with (at_builtin; refine wpList_append_lies _ rfl _ _ _ rfl W.heap.size 31 p0 (.agg #[.slice none 0 0, .slice none 0 0]) 2 48 Try.underlying23 pi0 pz0 pz1 pz2 rfl (by omega) (.slice (some ⟨g, 0, none⟩) j cp) j xs rfl (HO.out.alloc _) ⟨wr.heap.size, 0, none⟩ 1 1 [.slice a1 r k1, .slice a2 r k2] rfl rfl ?d1 ?d2 (by omega) ?d3 ?d4 ?d5 (wr.heap.size + 1) ?d6 ?_)
        try case d1 => exact World.news_of_block (cs := #[.slice a1 r k1, .slice a2 r k2]) (t := 31) (fr := (0, 0)) (heap_alloc_new wr _)
        case d2 => simp [Value.oneCell']
        case d3 => unfold maxLen; omega
        case d4 => omega
        case d5 => first | omega | (simp; omega)
        try case d6 => simp
        intro g3 k3 w3 hown3 hg3 hat3 hlt3
        have hg3 : (wr.alloc (.cells #[.slice a1 r k1, .slice a2 r k2] 31)).grownBy w3 (some g) := hg3
        have hat3 : g3 = g ∨ g3 = wr.heap.size + 1 := by rcases hat3 with h | h; (simp [Value.ownBlock] at h; exact .inl h.symm); exact .inr h
        have HH := addR_last (w := w) addD_at HP.out (Nat.le_refl _) hbw (by omega) ⟨by omega, by omega⟩ ⟨by omega, by omega⟩ hne Q1.out Q2.out hown3 hg3 hat3 hlt3
        clear hown3 hg3 hat3 HP HO Q1 Q2 hbr hbw c0 c1
        go_wp2_with fail
        go_ret2
        exact .inl ⟨hm7, g3, k3, rfl, HH.1, HH.2⟩
set_option maxHeartbeats 1000000 in
theorem iAdd_no (A : Option Addr) (m c : Nat) (D : Nat → PD) (R : Option Addr) (r d : Nat) (n frm : Int) (w : World)
    (hF : Calls Try.prog 42 #[.int .i64 n, .slice A m c, .int .i64 frm, .slice R r d] w (NoPath w)) :
    Calls Try.prog 24 #[.int .i64 n, .slice A m c, .int .i64 frm, .slice R r d] w (AddRes w 31 false 0 D) := by
  have HF := Lib.hid hF
  clear hF
  go_enter Try.func24, Try.ntmps24
  go_wp2_with fail
  refine HF.out.mono ?_
  rintro e w1 ⟨rfl, hn⟩
  have hs := hn.size
  go_wp2
  go_ret2
  exact ⟨_, 0, rfl, gr_none _ (by simp; omega) (by simp), by go_grown⟩
end Go.Proofs.Ytjppkcfbhhjniaa
