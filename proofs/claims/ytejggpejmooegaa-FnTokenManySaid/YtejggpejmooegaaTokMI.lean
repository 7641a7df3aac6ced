/-
  Contract of the program's TokenMany.
-/
import Derived.Test.YtejggpejmooegaaTokMT
import Derived.Test.YtejggpejmooegaaTokMS
import Derived.Deep.RegionHeld3
import Derived.Deep.DeepCutAuto
namespace Go.Proofs.Ytejggpejmooegaa
open Go.RowKit Go.Deep Go.Maps Go.WideMaps
set_option linter.unusedVariables false

/-- A map's literal lays an entry. -/
theorem wpList_insert_own {H : Type} {P : Program} (w : World) {ops : Array Oper} {rest : List Oper} {o : Oper} {a : Act} {Q : Exit → Act → World → Prop}
    (hg : o.guard = none) (m x v : Operand) (t : TypeId) (hop : o.op = Op.insert t m x v)
    (k e : TypeId) (K : Keyed P k) (ht : P.underlying t = some (.map k e)) (R : Value → Option (DataW H × List MemPlace)) (b n : Nat) (D : DataW H)
    (hm : a.eval m = .map (some b)) (hown : w.ownsMap P k R b n D) (hn : n < maxLen) (key val : Value) (kl : Lit) (hx : a.eval x = key) (hv : a.eval v = val) (hkey : keyOf P k key = some kl)
    (d : DataW H) (ps : List MemPlace) (hval : R val = some (d, ps))
    (hK : ∀ w', w'.ownsMap P k R b (n + 1) (D.put kl d) → w.grownBy w' (some b) → wpList P ops Q rest (a.put o.dst undef) w') :
    wpList P ops Q (o :: rest) a w := by
  refine wpList_plain hg fun K' hK' => ?_
  obtain ⟨w', hrun, r1, r2⟩ := hown.update K ht hn hkey hval
  unfold Oper.wp
  simp [execOp, hop, hm, hx, hv, hrun, Result.andThen]
  exact hK' _ _ (hK w' r1 r2)
theorem upd_one (t : Tk) : upd (fun _ => 1) t 1 = fun _ => 1 := by funext s; simp [upd]
theorem wsum_le_len {l : List Tk} {v : Tk → Nat} (h : Lev l v) {B : Nat} (hb : wsum l v (fun _ => 1) ≤ B) : l.length ≤ B := Nat.le_trans (wsum_len h.ps) hb
/-- A level is done: the numbers. -/
def Num (N j A : Nat) (l : List Tk) (v : Tk → Nat) : Prop := Lev l v ∧ wsum l v (many (N - j)) = A ∧ wsum l v (fun _ => 1) ≤ 2 ^ j
theorem pow30 {j : Nat} (h : j ≤ 30) : 2 ^ j ≤ 1073741824 := Nat.pow_le_pow_right (n := 2) (by omega) h
theorem bl_set3m {B C : Nat} {w w' : World} (h : Below B w w') (hC : B ≤ C) (x y z : Value) : Below B w (((w'.setCell ⟨C, 0, none⟩ x).setCell ⟨C, 1, none⟩ y).setCell ⟨C, 2, none⟩ z) := by
  go_grown
theorem blk_set3 (w : World) (C : Nat) (x y z : Value) {b : Nat} (h : b ≠ C) : (((w.setCell ⟨C, 0, none⟩ x).setCell ⟨C, 1, none⟩ y).setCell ⟨C, 2, none⟩ z).heap[b]? = w.heap[b]? := by
  rw [blk_setCell_other _ ⟨C, 2, none⟩ _ _ h, blk_setCell_other _ ⟨C, 1, none⟩ _ _ h, blk_setCell_other _ ⟨C, 0, none⟩ _ _ h]
theorem lev_nil (v : Tk → Nat) : Lev [] v := ⟨by simp, fun s hs => absurd hs (by simp), fun s hs => absurd hs (by simp)⟩
theorem Num.next {N j A : Nat} {l l' : List Tk} {v v' : Tk → Nat} (h : Num N j A l v) (hj : j < N) (hL : Lev l' v') (hB : BtwL l v l' v' []) : Num N (j + 1) A l' v' := by
  obtain ⟨h1, h2, h3⟩ := h
  refine ⟨hL, ?_, ?_⟩
  · rw [btw_end h1 hB, show N - (j + 1) + 1 = N - j by omega]; exact h2
  · have := btw_bound h1 hB
    rw [Nat.pow_succ]; omega
theorem gb_set3m (w : World) (C : Nat) (x y z : Value) : w.grownBy (((w.setCell ⟨C, 0, none⟩ x).setCell ⟨C, 1, none⟩ y).setCell ⟨C, 2, none⟩ z) (some C) :=
  gb_setCell (gb_setCell (gb_setCell (gb_refl w _) (q := ⟨C, 0, none⟩) (.inl rfl) x) (q := ⟨C, 1, none⟩) (.inl rfl) y) (q := ⟨C, 2, none⟩) (.inl rfl) z
def abpq : ByteArray := ⟨#[97, 98, 112, 113]⟩
theorem tkStep (c1 c2 c3 : Int) (hv : tokV c1 c2 c3 = true) (i : Nat) (h : i < lets.length) : ∃ (x1 x2 x3 : Int) (can : Bool), (∀ W, Calls Try.prog 19 #[.agg #[.int .i64 c1, .int .i64 c2, .int .i64 c3], .string (abpq.extract i (i + 1))] W fun e w' => e = .returned (.tuple #[.agg #[.int .i64 x1, .int .i64 x2, .int .i64 x3], .bool can]) ∧ Below W.heap.size W w') ∧
    ((can = true ∧ stp (c1, c2, c3) lets[i] = some (x1, x2, x3)) ∨ (can = false ∧ stp (c1, c2, c3) lets[i] = none)) := by
  have hs : i < abpq.size := h
  have e := one_cut c1 c2 c3 abpq i hs hv
  have e2 : abpq[i] = lets[i] := by
    have hi : i = 0 ∨ i = 1 ∨ i = 2 ∨ i = 3 := by have : i < 4 := h; omega
    rcases hi with rfl | rfl | rfl | rfl <;> rfl
  rw [e2] at e
  cases hst : stp (c1, c2, c3) lets[i] with
  | none => exact ⟨0, 0, 0, false, fun W => iStep_no _ _ _ _ W (e.trans hst), .inr ⟨rfl, rfl⟩⟩
  | some x =>
    obtain ⟨x1, x2, x3⟩ := x
    exact ⟨x1, x2, x3, true, fun W => iStep_yes _ _ _ _ _ _ _ W (e.trans hst), .inl ⟨rfl, rfl⟩⟩
set_option maxRecDepth 200000 in
set_option maxHeartbeats 8000000 in
theorem iManyV (a b o : Int) (N A : Nat) (w : World) (ht : tokV a b o = true) (hN : N ≤ 30) (hA : Hid (many N (a, b, o) = A)) :
    Calls Try.prog 35 #[.agg #[.int .i64 a, .int .i64 b, .int .i64 o], .int .i64 (N : Int)] w fun e w' => e = .returned (.int .i64 (A : Int)) ∧ Below w.heap.size w w' := by
  have hT := Lib.hid ht
  have hA2 : A ≤ 1073741824 := by rw [← hA.out]; exact Nat.le_trans (many_le N _ ht) (pow30 (by omega))
  have hmm := @run_makeMap Try.prog
  have hkey := Lib.hid (kf_key (s := (a, b, o)) ht)
  have n0 : (0 : Int) ≤ (N : Int) := by omega
  have n1 : (N : Int) ≤ 30 := by omega
  have bx0 := Bx.new w [.int .i64 a, .int .i64 b, .int .i64 o] 27
  clear ht
  go_enter Try.func35, Try.ntmps35
  go_wp2_with fail
  refine (iTokVv _ _ _ _ hT.out _).mono ?_
  rintro e w1 ⟨rfl, hn1⟩
  have bt := Bx.call bx0 hn1
  have hb1 : Below w.heap.size w w1 := belowT (by go_grown) (Nat.le_refl _) hn1
  obtain ⟨⟨t0, t1, t2⟩, tf0, tf1, tf2⟩ := bt.three
  have hl1 := bt.lt
  have BT := Lib.hid bt
  have HB := Lib.hid hb1
  clear hn1 bx0 bt hb1
  go_wp2_with fail
  have hq := Bx.new w1 [.slice none 0 0] 73
  refine (qPut w1.heap.size none [] (a, b, o) _ (GQ.new hq) (by simp)).mono ?_
  rintro e w2 ⟨rfl, R', hG, hR', hK⟩
  have BT2 : Bx w2 w.heap.size [.int .i64 a, .int .i64 b, .int .i64 o] := by
    refine (BT.out.alloc _).of (hK.2.2 _ (by simp; omega) (by omega) (by simp))
  have HB2 := Lib.hid (Kp.below (HB.out.alloc (by omega) (.cells #[.slice none 0 0] 73)) hK (by omega) (by simp; omega) (fun g hg => by cases hg))
  obtain ⟨⟨t0, t1, t2⟩, tf0, tf1, tf2⟩ := BT2.three
  have hl2 := BT2.lt
  have hGl := hG.lt
  have HG := Lib.hid hG
  have hownM := World.ownsMap_made (H := Unit) w2 Try.prog 27 (plainElem Try.prog 3)
  clear hK hG hR' BT2 hq BT HB
  go_wp2_with (refine wpList_insert_own _ rfl _ _ _ 75 rfl 27 3 lawTok Try.underlying75 _ w2.heap.size _ _ rfl hownM (by unfold maxLen; omega) _ _ _ rfl rfl hkey.out _ [] (plainElem_int Try.underlying3 (by decide)) ?_; intro w3 hown3 hgrow3)
  have S0 : Hid (So w w3 w1.heap.size w2.heap.size [(a, b, o)] (fun _ => 1)) := by
    refine ⟨(HB2.out.alloc (by omega) _).grown hgrow3 (by simp; omega) (fun k e => by injection e with e; omega), by omega, ?_, ?_⟩
    · exact ((HG.out.keep (w' := w2.alloc (.map #[] 0)) (by simp) fun k hk _ => blk_alloc_lt _ _ _ hk).grown hgrow3 (by omega) (fun e => by have := hGl.2 _ e; omega)).toTQ
    · have hM := MD.add (MD.new (fun _ => 1)) (x := (a, b, o)) hT.out (by simp) 1
      rw [upd_one] at hM
      exact MM.of hown3 hM
  have N0 : Hid (Num N 0 A [(a, b, o)] (fun _ => 1)) := ⟨lev_one hT.out, by rw [wsum_one]; exact hA.out, by rw [wsum_one]; exact Nat.le_refl _⟩
  clear hown3 hgrow3 HG HB2 hGl hownM t0 t1 t2 tf0 tf1 tf2 hkey
  go_loopw [5, 6, 39] (fun q m i wr => ∃ (j Q B : Nat) (l : List Tk) (v : Tk → Nat), j ≤ N ∧ i = .int .i64 j ∧ q = .pointer (some ⟨Q, 0, none⟩) ∧ m = .map (some B) ∧ Hid (So w wr Q B l v) ∧ Hid (Num N j A l v)) (fun _ _ i _ => N - (intOf i).toNat)
  case atStart => exact ⟨0, w1.heap.size, w2.heap.size, _, _, Nat.zero_le _, rfl, rfl, rfl, S0.out, N0.out⟩
  case round =>
    clear S0 N0 hl1 hl2 hA hT
    obtain ⟨j, Q, B, l, v, hj, rfl, rfl, rfl, HS, HN⟩ := hrel
    obtain ⟨X, hX⟩ : ∃ X, wr.heap.size = X := ⟨_, rfl⟩
    have hll := wsum_le_len HN.out.1 (Nat.le_trans HN.out.2.2 (pow30 (by omega)))
    have hSl := HS.out.lows
    have hSb := HS.out.below.size
    by_cases hlt : j < N
    · rename World => wo
      have h0 : Hid (St w ((wo.alloc (.cells #[.slice none 0 0] 73)).alloc (.map #[] 0)) X Q B X (X + 1) none l l v [] [] (fun _ => 1)) := by
        rw [← hX]
        refine HS.out.begin rfl rfl (((Below.refl _ _).alloc (Nat.le_refl _) _).alloc (by simp) _) (GQ.new ((Bx.new wo [.slice none 0 0] _).alloc _)) (MM.of (n := 0) ?_ (MD.new _))
        have := World.ownsMap_made (H := Unit) (wo.alloc (.cells #[.slice none 0 0] 73)) Try.prog 27 (plainElem Try.prog 3)
        rw [World.size_alloc] at this
        exact this
      clear HS
      go_wp2_with fail
      refine (qTake Q X l _ h0.out.tq (by omega)).mono ?_
      rintro e w4 ⟨c1, c2, c3, k, rfl, hHd, hTQ, hg4⟩
      have hz4 := hg4.size
      simp only [World.size_alloc] at hz4
      have S4 := Lib.hid (h0.out.take hTQ hg4)
      have B4 := Lib.hid (Bx.new w4 [.int .i64 c1, .int .i64 c2, .int .i64 c3] 27)
      have HD := Lib.hid hHd
      have hQX := h0.out.lows
      have hpw : 2 ^ j ≤ 536870912 := Nat.pow_le_pow_right (n := 2) (by omega) (show j ≤ 29 by omega)
      clear h0 hHd hTQ hg4
      go_wp2_with fail
      go_loopg [9, 10] l.length (fun gk sp ok wx => ∃ (sb : Nat) (c1 c2 c3 : Int) (k : Bool) (r l' : List Tk) (v' : Tk → Nat) (R : Option Nat), gk = r.length ∧ sp = .pointer (some ⟨sb, 0, none⟩) ∧ ok = .bool k ∧ Hid (Hd r c1 c2 c3 k) ∧ Hid (∀ s ∈ r, s ∈ l) ∧ r.length ≤ l.length ∧ Hid (St w wx X Q B X (X + 1) R r.tail l v l' l' v') ∧ Hid (Bx wx sb [.int .i64 c1, .int .i64 c2, .int .i64 c3]) ∧ X + 1 < sb ∧ Hid (R ≠ some sb) ∧ Hid (Lev l' v') ∧ Hid (BtwL l v l' v' r))
      case atStart => exact ⟨w4.heap.size, c1, c2, c3, k, l, [], fun _ => 1, none, rfl, rfl, rfl, HD, fun _ h => h, Nat.le_refl _, S4.out.alloc _, B4.out, by omega, (fun e => by cases e), lev_nil _, btw_start _ _ _⟩
      case round =>
        clear HD S4 B4 hz4
        obtain ⟨sb, c1, c2, c3, k, r, l', v', R, rfl, rfl, rfl, HD, HR, hrl, HS, HB, hsb, hRs, HL, HBt⟩ := hrel
        rename World => wx
        cases k
        · obtain rfl : r = [] := by
            rcases HD.out with ⟨h, _⟩ | ⟨h, _⟩
            · exact h
            · cases h
          have HN2 := Lib.hid (HN.out.next hlt HL.out HBt.out)
          clear HN HL HBt HD HR
          go_wp2
          go_roundw
          case rel => exact ⟨j + 1, X, X + 1, l', v', by omega, by go_num, rfl, rfl, HS.out.done, HN2.out⟩
          case measure => simp [intOf]; omega
        · obtain ⟨r, rfl⟩ : ∃ r', r = (c1, c2, c3) :: r' := by
            rcases HD.out with ⟨_, h⟩ | ⟨_, h⟩
            · cases h
            · exact h
          have MT := Lib.hid (btw_take HBt.out)
          clear HD HBt
          go_wp2_with fail
          go_loopw [55] (fun i wy => ∃ (i3 : Nat) (R : Option Nat) (l' : List Tk) (v' : Tk → Nat), i3 ≤ 4 ∧ i = .int .i64 i3 ∧ Hid (St w wy X Q B X (X + 1) R r l v l' l' v') ∧ Hid (Bx wy sb [.int .i64 c1, .int .i64 c2, .int .i64 c3]) ∧ Hid (R ≠ some sb) ∧ Hid (Lev l' v') ∧ Hid (MidL l v l' v' (c1, c2, c3) i3 r)) (fun i _ => 4 - (intOf i).toNat)
          case atStart => exact ⟨0, R, l', v', by omega, rfl, HS.out, HB.out, hRs, HL.out, MT.out⟩
          case round =>
            clear HS HB hRs HL MT
            obtain ⟨i3, R, l', v', hi3, rfl, HS, HB, hRs, HL, MT⟩ := hrel
            rename World => wy
            by_cases hi4 : i3 < 4
            · have hvs := HN.out.1.vl _ (HR.out _ (List.mem_cons_self ..))
              obtain ⟨x1, x2, x3, can, hcall, hst⟩ := tkStep c1 c2 c3 hvs i3 hi4
              have HC := Lib.hid hcall
              have ST := Lib.hid hst
              obtain ⟨⟨p0, p1, p2⟩, pf0, pf1, pf2⟩ := HB.out.three
              have hlb := HB.out.lt
              have k0 : (0 : Int) ≤ (i3 : Int) := by omega
              have k1 : (i3 : Int) < 4 := by omega
              have k2 : (i3 : Int) + 1 ≤ 4 := by omega
              have k3 : (0 : Int) ≤ (i3 : Int) + 1 := by omega
              have k4 : (i3 : Int) ≤ (i3 : Int) + 1 := by omega
              have hw1 : IntKind.i64.wrap ((i3 : Int) + 1) = (i3 : Int) + 1 := IntWalk.i64_in _ (by omega)
              have hw2 : ((i3 : Int) + 1).toNat = i3 + 1 := by omega
              clear hcall hst
              have hRl := HS.out.gq.lt.2
              have hRn : Hid (R ≠ some wy.heap.size) := fun e => by have := hRl _ e; omega
              have hne1 : sb ≠ wy.heap.size := by omega
              have hne2 : wy.heap.size ≠ sb := by omega
              have HRL := Lib.hid hRl
              clear hRl
              go_upto_region 16 with fail
              go_cut [12, 13] from 58 to 66 (fun s12 s13 wc => ∃ bh : Nat, s12 = .pointer (some ⟨bh, 0, none⟩) ∧ s13 = .bool can ∧ Hid (St w wc X Q B X (X + 1) R r l v l' l' v') ∧ Hid (Bx wc sb [.int .i64 c1, .int .i64 c2, .int .i64 c3]) ∧ Hid (Bx wc bh [.int .i64 x1, .int .i64 x2, .int .i64 x3]) ∧ wy.heap.size ≤ bh)
              case first =>
                go_region_held3 (fun V => V.cell? ⟨sb, 0, none⟩ = some (.int .i64 c1) ∧ V.cell? ⟨sb, 1, none⟩ = some (.int .i64 c2) ∧ V.cell? ⟨sb, 2, none⟩ = some (.int .i64 c3)) (go_keep)
                  (first
                    | (go_at_call 19; refine (HC.out _).mono ?_; rintro e u1 ⟨rfl, hn⟩; have hn := undrewM hn; obtain ⟨p3, p4, p5⟩ := (HB.out.call hn).three.1; have S1 := Lib.hid (HS.out.call hn); have B1 := Lib.hid (HB.out.call hn); have hz1 := hn.size; clear hn)
                    | (go_at_call 19; refine (HC.out _).mono ?_; rintro e u1 ⟨rfl, hn⟩; have hn := undrewM hn; obtain ⟨p3, p4, p5⟩ := ((HB.out.alloc _).call hn).three.1; have S1 := Lib.hid ((HS.out.alloc _).call hn); have B1 := Lib.hid ((HB.out.alloc _).call hn); have hNw := (Bx.new wy _ _).call hn; have hlN := hNw.lt; obtain ⟨⟨n0, n1, n2⟩, m0, m1, m2⟩ := hNw.three; have N2 := Lib.hid hNw; have hz1 := hn.size; clear hn hNw))
                · go_wp2_with fail
                  go_meet
                  exact ⟨u1.heap.size, rfl, rfl, S1.out.alloc _, B1.out.alloc _, Bx.new _ _ _, hz1⟩
                · go_wp2_with fail
                  go_meet
                  exact ⟨wy.heap.size, rfl, rfl, S1.out.other (by omega) (by omega) hRn.out (by omega) (gb_set3m _ _ _ _ _), B1.out.other3 hne1 _ _ _, N2.out.set3, Nat.le_refl _⟩
              case rest =>
                obtain ⟨bh, rfl, rfl, HS, HB, HX, hbh⟩ := hcut
                rename World => wc
                have hRb : Hid (R ≠ some bh) := fun e => by have := HRL.out _ e; omega
                clear p0 p1 p2 pf0 pf1 pf2 hne1 hne2 hRn HRL HC hw2
                cases can
                · have hno : stp (c1, c2, c3) lets[i3] = none := by
                    rcases ST.out with ⟨h, _⟩ | ⟨_, h⟩
                    · cases h
                    · exact h
                  have M2 := Lib.hid (mid_skip MT.out hi4 hno)
                  clear hno ST MT
                  go_wp2
                  go_roundw
                  case rel => exact ⟨i3 + 1, R, l', v', by omega, by go_num, HS, HB.out, hRs, HL, M2.out⟩
                  case measure => simp [intOf]; omega
                · have hyes : stp (c1, c2, c3) lets[i3] = some (x1, x2, x3) := by
                    rcases ST.out with ⟨_, h⟩ | ⟨h, _⟩
                    · exact h
                    · cases h
                  have hvx := stp_vk hvs hyes
                  obtain ⟨ys, hys⟩ : ∃ y, v (c1, c2, c3) = y := ⟨_, rfl⟩
                  have hin := HR.out _ (List.mem_cons_self ..)
                  have hb1 := mid_bound HN.out.1 MT.out
                  have hb2 := HN.out.2.2
                  have hb3 : ys ≤ wsum l v (fun _ => 1) := by rw [← hys]; have := wsum_mem (v := v) (F := fun _ => 1) hin; omega
                  have hb4 : 1 ≤ ys := by rw [← hys]; exact HN.out.1.ps _ hin
                  have hll2 := wsum_len (l := l') (v := v') HL.out.ps
                  obtain ⟨⟨q0, q1, q2⟩, qf0, qf1, qf2⟩ := HX.out.three
                  have hlx := HX.out.lt
                  by_cases hm : (x1, x2, x3) ∈ l'
                  · obtain ⟨y, hy⟩ : ∃ y, v' (x1, x2, x3) = y := ⟨_, rfl⟩
                    have hb5 : y ≤ wsum l' v' (fun _ => 1) := by rw [← hy]; have := wsum_mem (v := v') (F := fun _ => 1) hm; omega
                    obtain ⟨z, hz⟩ : ∃ z, y + ys = z := ⟨_, rfl⟩
                    have M2 : Hid (MidL l v l' (upd v' (x1, x2, x3) z) (c1, c2, c3) (i3 + 1) r) := by
                      have := mid_in MT.out hi4 hyes HL.out.nd hm
                      rw [hys, hy, hz] at this; exact this
                    have L2 : Hid (Lev l' (upd v' (x1, x2, x3) z)) := HL.out.in_ hm (by omega)
                    have HY : Hid (((x1, x2, x3) ∈ l' ∧ y = v' (x1, x2, x3) ∧ l' = l') ∨ ((x1, x2, x3) ∉ l' ∧ y = 0 ∧ l' = l' ++ [(x1, x2, x3)])) := .inl ⟨hm, hy.symm, rfl⟩
                    have hlk : (Instr.lookup 75 (.map (some (X + 1))) (.agg #[.int .i64 x1, .int .i64 x2, .int .i64 x3]) true).run Try.prog wc = .ok (.tuple #[.int .i64 (y : Int), .bool true]) wc := by
                      have := HS.out.mm'.look_in hm hvx
                      rw [hy] at this; exact this
                    clear hm hy hyes ST MT HL
                    have HRS := hRs
                    go_upto_region 21 with fail
                    obtain ⟨RR, rfl⟩ : ∃ RR, RR = R := ⟨_, rfl⟩
                    obtain ⟨e1, st, W1, e2, hg1, hz1, e3, e4⟩ := MM.entry (HS.out.drew.mm') (by omega) hvx y _ HY.out
                    obtain ⟨W3, e5, hg3, hM3⟩ := e4 z (by omega)
                    have e6 := HS.out.drew.mm.look hin hvs
                    have e7 := (HS.out.drew.mm.keep (hg1.block _ HS.out.drew.mm.lt (fun e => by injection e with e; omega))).look hin hvs
                    rw [hys] at e6 e7
                    rw [← hz, Int.natCast_add] at e5
                    have f1 : (Instr.lookup 75 (.map (some (X + 1))) (.agg #[.int .i64 x1, .int .i64 x2, .int .i64 x3]) false).run Try.prog wc.drew = .ok (.int .i64 (y : Int)) wc.drew := e1
                    have f2 : (Instr.mapEntry 75 (.map (some (X + 1))) (.agg #[.int .i64 x1, .int .i64 x2, .int .i64 x3])).run Try.prog wc.drew = .ok (.tuple #[.int .i64 (y : Int), .int .i64 (st : Int)]) W1 := e2
                    have f3 : (Instr.lookup 75 (.map (some (X + 1))) (.agg #[.int .i64 x1, .int .i64 x2, .int .i64 x3]) false).run Try.prog W1 = .ok (.int .i64 (y : Int)) W1 := e3
                    have f6 : (Instr.lookup 75 (.map (some B)) (.agg #[.int .i64 c1, .int .i64 c2, .int .i64 c3]) false).run Try.prog wc.drew = .ok (.int .i64 (ys : Int)) wc.drew := e6
                    have f7 : (Instr.lookup 75 (.map (some B)) (.agg #[.int .i64 c1, .int .i64 c2, .int .i64 c3]) false).run Try.prog W1 = .ok (.int .i64 (ys : Int)) W1 := e7
                    have hwz : IntKind.i64.wrap ((y : Int) + (ys : Int)) = (y : Int) + (ys : Int) := IntWalk.i64_in _ (by omega)
                    have B1 := HB.out.drew.grown hg1 (fun e => by injection e with e; omega)
                    have X1 := HX.out.drew.grown hg1 (fun e => by injection e with e; omega)
                    obtain ⟨⟨p0, p1, p2⟩, pf0, pf1, pf2⟩ := HB.out.three
                    obtain ⟨⟨r0, r1, r2⟩, rf0, rf1, rf2⟩ := B1.three
                    obtain ⟨⟨s0, s1, s2⟩, sf0, sf1, sf2⟩ := X1.three
                    have S3 := Lib.hid (HS.out.drew.map hg3 hM3)
                    have B3 := Lib.hid (HB.out.drew.grown hg3 (fun e => by injection e with e; omega))
                    clear e1 e2 e3 e4 e6 e7 hg1 hg3 hM3 B1 X1 HY
                    go_region
                    all_goals
                      go_wp2
                      go_roundw
                      case rel => exact ⟨i3 + 1, RR, _, _, by omega, by go_num, S3.out, B3.out, HRS.out, L2.out, M2.out⟩
                      case measure => simp [intOf]; omega
                  · obtain ⟨z, hz⟩ : ∃ z, 0 + ys = z := ⟨_, rfl⟩
                    have M2 : Hid (MidL l v (l' ++ [(x1, x2, x3)]) (upd v' (x1, x2, x3) z) (c1, c2, c3) (i3 + 1) r) := by
                      have := mid_new MT.out hi4 hyes hm
                      rw [hys, show ys = z by omega] at this; exact this
                    have L2 : Hid (Lev (l' ++ [(x1, x2, x3)]) (upd v' (x1, x2, x3) z)) := HL.out.new hm hvx (by omega)
                    obtain ⟨y, hy0⟩ : ∃ y, y = 0 := ⟨0, rfl⟩
                    have hz : y + ys = z := by omega
                    have HY0 : Hid ((x1, x2, x3) ∉ l' ∧ y = 0) := ⟨hm, hy0⟩
                    have hlk : (Instr.lookup 75 (.map (some (X + 1))) (.agg #[.int .i64 x1, .int .i64 x2, .int .i64 x3]) true).run Try.prog wc = .ok (.tuple #[.int .i64 0, .bool false]) wc := HS.out.mm'.look_no hm hvx
                    have hb5 : y ≤ 0 := by omega
                    clear hm hy0 hyes ST MT HL
                    go_wp2_with fail
                    refine (qPut X R l' (x1, x2, x3) wc HS.out.gq (by omega)).mono ?_
                    rintro e wd ⟨rfl, RR, hG, hRR, hK⟩
                    have HS2 := Lib.hid (HS.out.put hG hRR hK)
                    have HRS : Hid (RR ≠ some sb) := fun e => by
                      rcases hRR with h | ⟨g, h, hg⟩
                      · exact hRs.out (h ▸ e)
                      · rw [h] at e; injection e with e; omega
                    have HB2 : Hid (Bx wd sb [.int .i64 c1, .int .i64 c2, .int .i64 c3]) := HB.out.of (hK.2.2 _ (by omega) (by omega) (fun e => hRs.out e.symm))
                    have HX2 : Hid (Bx wd bh [.int .i64 x1, .int .i64 x2, .int .i64 x3]) := HX.out.of (hK.2.2 _ hlx (by omega) (fun e => hRb.out e.symm))
                    clear hlk hG hRR hK HS HB HX hlx
                    have HS := HS2
                    have HB := HB2
                    have HX := HX2
                    clear HS2 HB2 HX2 q0 q1 q2 qf0 qf1 qf2
                    obtain ⟨⟨q0, q1, q2⟩, qf0, qf1, qf2⟩ := HX.out.three
                    have hlx := HX.out.lt
                    go_upto_region 21 with fail
                    have HY : Hid (((x1, x2, x3) ∈ l' ∧ y = v' (x1, x2, x3) ∧ l' ++ [(x1, x2, x3)] = l') ∨ ((x1, x2, x3) ∉ l' ∧ y = 0 ∧ l' ++ [(x1, x2, x3)] = l' ++ [(x1, x2, x3)])) := .inr ⟨HY0.out.1, HY0.out.2, rfl⟩
                    clear HY0
                    obtain ⟨e1, st, W1, e2, hg1, hz1, e3, e4⟩ := MM.entry (HS.out.drew.mm') (by omega) hvx y _ HY.out
                    obtain ⟨W3, e5, hg3, hM3⟩ := e4 z (by omega)
                    have e6 := HS.out.drew.mm.look hin hvs
                    have e7 := (HS.out.drew.mm.keep (hg1.block _ HS.out.drew.mm.lt (fun e => by injection e with e; omega))).look hin hvs
                    rw [hys] at e6 e7
                    rw [← hz, Int.natCast_add] at e5
                    have f1 : (Instr.lookup 75 (.map (some (X + 1))) (.agg #[.int .i64 x1, .int .i64 x2, .int .i64 x3]) false).run Try.prog wd.drew = .ok (.int .i64 (y : Int)) wd.drew := e1
                    have f2 : (Instr.mapEntry 75 (.map (some (X + 1))) (.agg #[.int .i64 x1, .int .i64 x2, .int .i64 x3])).run Try.prog wd.drew = .ok (.tuple #[.int .i64 (y : Int), .int .i64 (st : Int)]) W1 := e2
                    have f3 : (Instr.lookup 75 (.map (some (X + 1))) (.agg #[.int .i64 x1, .int .i64 x2, .int .i64 x3]) false).run Try.prog W1 = .ok (.int .i64 (y : Int)) W1 := e3
                    have f6 : (Instr.lookup 75 (.map (some B)) (.agg #[.int .i64 c1, .int .i64 c2, .int .i64 c3]) false).run Try.prog wd.drew = .ok (.int .i64 (ys : Int)) wd.drew := e6
                    have f7 : (Instr.lookup 75 (.map (some B)) (.agg #[.int .i64 c1, .int .i64 c2, .int .i64 c3]) false).run Try.prog W1 = .ok (.int .i64 (ys : Int)) W1 := e7
                    have hwz : IntKind.i64.wrap ((y : Int) + (ys : Int)) = (y : Int) + (ys : Int) := IntWalk.i64_in _ (by omega)
                    have B1 := HB.out.drew.grown hg1 (fun e => by injection e with e; omega)
                    have X1 := HX.out.drew.grown hg1 (fun e => by injection e with e; omega)
                    obtain ⟨⟨p0, p1, p2⟩, pf0, pf1, pf2⟩ := HB.out.three
                    obtain ⟨⟨r0, r1, r2⟩, rf0, rf1, rf2⟩ := B1.three
                    obtain ⟨⟨s0, s1, s2⟩, sf0, sf1, sf2⟩ := X1.three
                    have S3 := Lib.hid (HS.out.drew.map hg3 hM3)
                    have B3 := Lib.hid (HB.out.drew.grown hg3 (fun e => by injection e with e; omega))
                    clear e1 e2 e3 e4 e6 e7 hg1 hg3 hM3 B1 X1 HY
                    go_region
                    all_goals
                      go_wp2
                      go_roundw
                      case rel => exact ⟨i3 + 1, RR, _, _, by omega, by go_num, S3.out, B3.out, HRS.out, L2.out, M2.out⟩
                      case measure => simp [intOf]; omega
            · obtain rfl : i3 = 4 := by omega
              have BT := Lib.hid (mid_done MT.out)
              obtain ⟨⟨p0, p1, p2⟩, pf0, pf1, pf2⟩ := HB.out.three
              clear MT
              have hwl := HB.out.lt
              have hRl := HS.out.gq.lt.2
              have hrr : r.length ≤ 1073741824 := by simp at hrl; omega
              have HSa := Lib.hid (HS.out.alloc (.cells #[.int .i64 c1, .int .i64 c2, .int .i64 c3] 27))
              have HR2 : Hid (∀ s ∈ r, s ∈ l) := fun s hs => HR.out s (List.mem_cons_of_mem _ hs)
              have hRn : Hid (R ≠ some wy.heap.size) := fun e => by have := hRl _ e; omega
              have hrl2 : r.length ≤ l.length := by simp at hrl; omega
              clear hRl HR hRs hrl
              go_wp2_with fail
              refine (qTake Q X r _ HSa.out.tq (by omega)).mono ?_
              rintro e w5 ⟨d1, d2, d3, k, rfl, hHd, hTQ, hg5⟩
              have B5 := (Bx.new wy [.int .i64 c1, .int .i64 c2, .int .i64 c3] 27).grown hg5 (fun e => by injection e with e; omega)
              have S5 := Lib.hid (HSa.out.take hTQ hg5)
              have B5H := Lib.hid B5
              have HD5 := Lib.hid hHd
              clear p0 p1 p2 pf0 pf1 pf2
              obtain ⟨⟨p0, p1, p2⟩, pf0, pf1, pf2⟩ := B5.three
              have hl5 := B5.lt
              clear B5 hTQ hHd hg5 HSa HS HB
              go_wp2
              go_roundg r.length
              case measure => simp
              case rel => exact ⟨wy.heap.size, d1, d2, d3, k, r, l', v', R, rfl, rfl, rfl, HD5, HR2, hrl2, S5.out.other (by omega) (by omega) hRn.out (by omega) (gb_set3m _ _ _ _ _), B5H.out.set3, by omega, hRn, HL, BT⟩
    · obtain rfl : j = N := by omega
      go_wp2_with fail
      refine (qTake Q _ l _ HS.out.tq (by omega)).mono ?_
      rintro e w4 ⟨c1, c2, c3, k, rfl, hHd, hTQ, hg4⟩
      have hm0 : many 0 = fun _ => 1 := by funext s; rfl
      have AN : Hid (0 + wsum l v (fun _ => 1) = A) := by
        have h := HN.out.2.1
        rw [Nat.sub_self, hm0] at h
        rw [Nat.zero_add]; exact h
      have VL : Hid (∀ s ∈ l, vk s) := HN.out.1.vl
      have PS : Hid (∀ s ∈ l, 1 ≤ v s) := HN.out.1.ps
      have HB4 : Hid (Below w.heap.size w w4) := HS.out.below.grown hg4 (by omega) (fun k e => by injection e with e; omega)
      have hQX := HS.out.tq.low
      have hBX := HS.out.mm.lt
      have hBQ : B ≠ Q := by obtain ⟨_, _, hB, _⟩ := HS.out.tq; exact HS.out.mm.ne_bx hB
      have HM4 : Hid (MM w4 B l v) := HS.out.mm.keep (hg4.block _ hBX (fun e => by injection e with e; omega))
      have HQ4 := Lib.hid hTQ
      have HD := Lib.hid hHd
      have hz4 := hg4.size
      rw [hX] at hTQ HQ4 hQX hBX hz4
      clear hm0 HN HS hg4 hTQ hHd
      go_wp2_with fail
      have B4 := Lib.hid (Bx.new w4 [.int .i64 c1, .int .i64 c2, .int .i64 c3] 27)
      go_loopg [16, 17, 18] l.length (fun gk sm sp ok wx => ∃ (S sb : Nat) (c1 c2 c3 : Int) (k : Bool) (r : List Tk), gk = r.length ∧ sm = .int .i64 S ∧ sp = .pointer (some ⟨sb, 0, none⟩) ∧ ok = .bool k ∧ Hid (Hd r c1 c2 c3 k) ∧ Hid (∀ s ∈ r, s ∈ l) ∧ Hid (TQ wx Q X r.tail) ∧ Hid (MM wx B l v) ∧ Hid (Bx wx sb [.int .i64 c1, .int .i64 c2, .int .i64 c3]) ∧ (X ≤ sb ∧ X ≤ wx.heap.size) ∧ Hid (Below w.heap.size w wx) ∧ Hid (S + wsum r v (fun _ => 1) = A))
      case atStart => exact ⟨0, w4.heap.size, c1, c2, c3, k, l, rfl, rfl, rfl, rfl, HD, fun _ h => h, HQ4.out.keep (by simp) fun b hb => blk_alloc_lt _ _ _ (by omega), HM4.out.keep (blk_alloc_lt _ _ _ (by omega)), B4.out, by simp; omega, HB4.out.alloc (by omega) _, AN⟩
      case round =>
        clear HD HQ4 HM4 B4 AN HB4 hz4
        obtain ⟨S, sb, c1, c2, c3, k, r, rfl, rfl, rfl, rfl, HD, HR, HQ4, HM4, B4, hsb, HB4, AN⟩ := hrel
        rename World => wx
        cases k
        · have hS : Hid (S = A) := by
            rcases HD.out with ⟨rfl, _⟩ | ⟨h, _⟩
            · exact AN.out
            · cases h
          go_wp2
          go_ret
          exact ⟨by rw [hS.out]; rfl, HB4.out⟩
        · obtain ⟨r, rfl⟩ : ∃ r', r = (c1, c2, c3) :: r' := by
            rcases HD.out with ⟨_, h⟩ | ⟨_, h⟩
            · cases h
            · exact h
          have hin := HR.out _ (List.mem_cons_self ..)
          have hlk := HM4.out.look hin (VL.out _ hin)
          have hAN := AN.out
          rw [wsum_cons] at hAN
          obtain ⟨y, hy⟩ : ∃ y, v (c1, c2, c3) = y := ⟨_, rfl⟩
          rw [hy] at hlk hAN
          have hlk : (Instr.lookup 75 (.map (some B)) (.agg #[.int .i64 c1, .int .i64 c2, .int .i64 c3]) false).run Try.prog wx = .ok (.int .i64 (y : Int)) wx := hlk
          have hwr : IntKind.i64.wrap ((S : Int) + (y : Int)) = (S : Int) + (y : Int) := IntWalk.i64_in _ (by omega)
          have AN2 : Hid ((S + y) + wsum r v (fun _ => 1) = A) := by show (S + y) + _ = A; omega
          obtain ⟨⟨p0, p1, p2⟩, pf0, pf1, pf2⟩ := B4.out.three
          have hlB := B4.out.lt
          clear hAN hin HD AN
          go_wp2_with fail
          have hrl : r.length ≤ 1073741824 := by
            have h1 := wsum_len (l := r) (v := v) ?hp
            · have h2 := AN2.out; omega
            case hp => exact fun s hs => PS.out s (HR.out s (List.mem_cons_of_mem _ hs))
          have HR2 : Hid (∀ s ∈ r, s ∈ l) := fun s hs => HR.out s (List.mem_cons_of_mem _ hs)
          clear HR
          refine (qTake Q X r _ (HQ4.out.keep (by simp) fun b hb => blk_alloc_lt _ _ _ (by omega)) (by omega)).mono ?_
          rintro e w5 ⟨d1, d2, d3, k, rfl, hHd, hTQ, hg5⟩
          have B5 := (Bx.new wx [.int .i64 c1, .int .i64 c2, .int .i64 c3] 27).grown hg5 (fun e => by injection e with e; omega)
          have hz5 := hg5.size
          simp only [World.size_alloc] at hz5
          have HB5 : Hid (Below w.heap.size w w5) := (HB4.out.alloc (by omega) _).grown hg5 (by simp; omega) (fun k e => by injection e with e; omega)
          have HM5 : Hid (MM w5 B l v) := (HM4.out.keep (blk_alloc_lt _ _ _ (by omega))).keep (hg5.block _ (by simp; omega) (fun e => by injection e with e; omega))
          have B5H := Lib.hid B5
          have HQ5 := Lib.hid hTQ
          have HD5 := Lib.hid hHd
          clear p0 p1 p2 pf0 pf1 pf2
          obtain ⟨⟨p0, p1, p2⟩, pf0, pf1, pf2⟩ := B5.three
          have hl5 := B5.lt
          clear B5 hTQ hHd hg5 hlk hlB B4 HQ4 HB4 HM4
          go_wp2
          go_roundg r.length
          case measure => simp
          case rel => exact ⟨S + y, wx.heap.size, d1, d2, d3, k, r, rfl, by go_num, rfl, rfl, HD5, HR2, HQ5.out.keep (by simp [World.setCell]) fun b hb => blk_set3 _ _ _ _ _ (by omega), HM5.out.keep (blk_set3 _ _ _ _ _ (by omega)), B5H.out.set3, by simp [World.setCell]; omega, bl_set3m HB5.out (by omega) _ _ _, AN2⟩
end Go.Proofs.Ytejggpejmooegaa
