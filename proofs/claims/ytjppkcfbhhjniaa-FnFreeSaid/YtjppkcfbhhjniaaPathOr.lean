/-
  Contract of l2Order: the trains in the order in which they enter a section.
-/
import Derived.Test.YtjppkcfbhhjniaaPathB
import Derived.Test.YtjppkcfbhhjniaaK1
import Derived.Maps.AppendAt
namespace Go.Proofs.Ytjppkcfbhhjniaa
open Go.RowKit
set_option linter.unusedVariables false

/-- append, at a source that may be empty. -/
theorem wp_app {P : Program} {w : World} {ops : Array Oper} {rest : List Oper} {o : Oper} {a : Act} {Q : Exit → Act → World → Prop} (hgd : o.guard = none) (s x : Operand) (t : TypeId)
    (ho : o.op = .call { callee := .builtin .append, args := #[s, x], argTypes := #[t, t] })
    (base : Nat) (e : TypeId) (i : TypeInfo) (z : Value) (size bytes : Nat) (ht : P.underlying t = some (.slice e)) (hi : P.info? e = some i) (hz : i.zero = some z)
    (hsize : i.size = size) (hby : i.bytes = bytes) (hzs : z.cells.size = size) (hsz : 0 < size)
    (g0 c0 n : Nat) (xs : List Value) (hs : a.eval s = .slice (some ⟨g0, 0, none⟩) n c0) (hown : w.ownsRow base e size (.slice (some ⟨g0, 0, none⟩) n c0) n xs)
    (ad : Addr) (m c : Nat) (news : List Value) (hx : a.eval x = .slice (some ad) m c) (hl : news.length = m * size) (hnews : ∀ j u, news[j]? = some u → w.cell? (ad.add j) = some u) (h1 : ∀ u ∈ news, u.oneCell' = true)
    (h63 : n + m ≤ maxLen) (hbytes : (n + m) * bytes ≤ 140737488355328) (hbase : base ≤ w.heap.size) (H : Nat) (hH : w.heap.size = H)
    (h : ∀ g cap w', w'.ownsRow base e size (.slice (some ⟨g, 0, none⟩) (n + m) cap) (n + m) (xs ++ news) → w.grownBy w' (some g0) → (g = g0 ∨ g = H) → g < w'.heap.size → wpList P ops Q rest (a.put o.dst (.slice (some ⟨g, 0, none⟩) (n + m) cap)) w') : wpList P ops Q (o :: rest) a w := by
  refine wpList_append_own_at w hgd s x t ho base e i z size bytes ht hi hz hsize hby hzs hsz _ n xs hs hown ad m c news hx hl hnews h1 h63 hbytes hbase ?_
  intro v' w' ho' hg hnil hat
  have hne : v' ≠ .slice none 0 0 := fun hv => by have := (hnil.1 hv).1; simp at this
  have ho2 := ho'
  obtain ⟨hl', h2⟩ := ho'
  rcases h2 with ⟨hv, _⟩ | ⟨g', cap', cur, hv, hb, hg', _⟩
  · exact absurd hv hne
  · subst hv
    refine h g' cap' w' ho2 hg ?_ (lt_of_block hg')
    subst hH
    simpa [Value.ownBlock] using hat
/-- Indices, as cells. -/
def nats (l : List Nat) : List Value := l.map fun (x : Nat) => .int .i64 (x : Int)
theorem nats_len (l : List Nat) : (nats l).length = l.length := by simp [nats]
theorem nats_one {l : List Nat} : ∀ u ∈ nats l, u.oneCell' = true := by
  intro u hu
  simp only [nats, List.mem_map] at hu
  obtain ⟨_, _, rfl⟩ := hu
  rfl
theorem nats_at {l : List Nat} {j : Nat} (h : j < l.length) : (nats l)[j]? = some (.int .i64 ((l[j] : Nat) : Int)) := by simp [nats, h]
theorem add_at (b off j : Nat) : (⟨b, off, none⟩ : Addr).add j = ⟨b, off + j, none⟩ := by unfold Addr.add; split <;> simp_all
theorem nats_cell {w : World} {base T g c n : Nat} {l : List Nat} (h : w.ownsRow base T 1 (.slice (some ⟨g, 0, none⟩) n c) n (nats l)) {j : Nat} (hj : j < l.length) : w.cell? ⟨g, j, none⟩ = some (.int .i64 ((l[j] : Nat) : Int)) := by
  have := h.cells (g := g) rfl j _ (nats_at hj)
  rwa [add_at, Nat.zero_add] at this
theorem nats_news {w : World} {base T g c n : Nat} {l : List Nat} (h : w.ownsRow base T 1 (.slice (some ⟨g, 0, none⟩) n c) n (nats l)) (p q : Nat) : ∀ j u, (nats ((l.drop p).take q))[j]? = some u → w.cell? ((⟨g, p, none⟩ : Addr).add j) = some u := by
  intro j u hu
  have hj : j < ((l.drop p).take q).length := by
    rcases Nat.lt_or_ge j ((l.drop p).take q).length with h | h
    · exact h
    · rw [List.getElem?_eq_none (by rw [nats_len]; exact h)] at hu; cases hu
  rw [nats_at hj] at hu
  have hj2 : p + j < l.length := by simp only [List.length_take, List.length_drop] at hj; omega
  rw [add_at, nats_cell h hj2, ← hu]
  simp
/-- Between two rounds. -/
def OrdR (w : World) (T m : Nat) (f : Nat → Int) (out i : Value) (wr : World) : Prop :=
  ∃ (n g c : Nat) (l : List Nat), n ≤ m ∧ i = .int .i64 n ∧ out = .slice (some ⟨g, 0, none⟩) n c ∧ Hid (ordN f n = l) ∧ Hid (l.length = n) ∧ wr.ownsRow w.heap.size T 1 (.slice (some ⟨g, 0, none⟩) n c) n (nats l) ∧ Below w.heap.size w wr
def OrdRes (w : World) (T m : Nat) (f : Nat → Int) (e : Ending) (w' : World) : Prop :=
  ∃ g c : Nat, e = .returned (.slice (some ⟨g, 0, none⟩) m c) ∧ w'.ownsRow w.heap.size T 1 (.slice (some ⟨g, 0, none⟩) m c) m (nats (ordN f m)) ∧ Below w.heap.size w w'
set_option maxRecDepth 100000 in
set_option maxHeartbeats 4000000 in
theorem sOrder (A : Option Addr) (m c : Nat) (D : Nat → PD) (n : Int) (k : Nat) (w : World) (h : PsRn w w.heap.size A m D) (hv : hasS n D m k = true) :
    Calls Try.prog 72 #[.slice A m c, .int .i64 (k : Int)] w (OrdRes w 3 m fun i => (D i).f1 k) := by
  obtain ⟨i0, ji0, jz0, jz1, jz2⟩ := info_parts intInfo
  have J := Lib.hid (And.intro ji0 (And.intro jz0 (And.intro jz1 jz2)))
  obtain ⟨hpv, h0, hkn⟩ := hasS_iff.1 hv
  have hm8 : m ≤ 8 := (pathsV_iff.1 hpv).2.2.1
  have PV := Lib.hid hpv
  have H0 := Lib.hid h
  obtain ⟨F, hF⟩ : ∃ F : Nat → Int, F = fun i => (D i).f1 k := ⟨_, rfl⟩
  rw [← hF]
  have FF := Lib.hid hF
  clear hv hpv h hF ji0 jz0 jz1 jz2
  have o0 := World.ownsRow_made (base := w.heap.size) (size := 1) (e := 3) w #[] 0 (Nat.le_refl _) (by unfold maxLen; omega) (by simp)
  go_enter Try.func72, Try.ntmps72
  go_wp2_with fail
  go_loopw [5, 6] (fun out i wr => OrdR w 3 m F out i wr) (fun _ i _ => m - (intOf i).toNat)
  case atStart => exact ⟨0, w.heap.size, 0, [], Nat.zero_le _, rfl, rfl, rfl, rfl, o0, by go_grown⟩
  case round =>
    clear o0
    obtain ⟨i, g, cp, l, hi, rfl, rfl, hl, hlen, hown, hb⟩ := hrel
    by_cases hlt : i < m
    · have HO := Lib.hid hown
      clear hown
      go_wp2_with fail
      go_loopw [7] (fun pv wx => ∃ p : Nat, p ≤ i ∧ pv = .int .i64 p ∧ (∀ j (hj : j < l.length), j < p → F l[j] < F i) ∧ wx.ownsRow w.heap.size 3 1 (.slice (some ⟨g, 0, none⟩) i cp) i (nats l) ∧ Below w.heap.size w wx) (fun pv _ => i - (intOf pv).toNat)
      case atStart => exact ⟨0, Nat.zero_le _, rfl, fun j hj h => absurd h (by omega), HO.out, hb⟩
      case round =>
        clear HO hb
        obtain ⟨p, hp, rfl, hbef, hown, hb⟩ := hrel
        by_cases hlp : p < i
        · obtain ⟨y, hy⟩ : ∃ y, l[p]'(by rw [hlen.out]; exact hlp) = y := ⟨_, rfl⟩
          have hym : y < i := by rw [← hy]; have h1 := hl.out; subst h1; exact ord_lt F i _
          have hcy := nats_cell hown (j := p) (by rw [hlen.out]; exact hlp)
          rw [hy] at hcy
          have hps := H0.out.below hb
          obtain ⟨b, off, a1, c1, a2, c2, n1, f1, n2, f2, rfl, hbB, hD, x0, x1, r1, r2⟩ := hps.at_ (show y < m by omega)
          obtain ⟨b', off', a1', c1', a2', c2', n1', f1', n2', f2', e3, hbB', hD', x0', x1', r1', r2'⟩ := hps.at_ hlt
          simp only [Option.some.injEq, Addr.mk.injEq, and_true] at e3
          obtain ⟨rfl, rfl⟩ := e3
          have hat := pathsV_at PV.out (show y < m by omega)
          have hat' := pathsV_at PV.out hlt
          rw [hD] at hat
          rw [hD'] at hat'
          have hF1 : F y = f1 k := by rw [FF.out]; show (D y).f1 k = _; rw [hD]
          have hF2 : F i = f1' k := by rw [FF.out]; show (D i).f1 k = _; rw [hD']
          have hn1 := hat.1
          have hn1' := hat'.1
          simp only at hn1 hn1'
          obtain ⟨d1, o1, rfl, hd1, hc1⟩ := r1 (by omega)
          obtain ⟨d2, o2, rfl, hd2, hc2⟩ := r1' (by omega)
          have z1 := hc1 k (by omega)
          have z2 := hc2 k (by omega)
          have j0 : (0 : Int) ≤ (p : Int) := by omega
          have j1 : (p : Int) < (i : Int) := by omega
          have j2 : (0 : Int) ≤ (y : Int) := by omega
          have j3 : (y : Int) < (m : Int) := by omega
          have j4 : (0 : Int) ≤ (i : Int) := by omega
          have j5 : (i : Int) < (m : Int) := by omega
          have j6 : (0 : Int) ≤ (k : Int) := by omega
          have j7 : (k : Int) < (n1 : Int) := by omega
          have j8 : (k : Int) < (n1' : Int) := by omega
          clear hc1 hc2 hat hat' hD hD' r2 r2' x1 x1' hps
          by_cases hff : F y < F i
          · have hd : decide (f1 k < f1' k) = true := decide_eq_true (by omega)
            have hbef' : ∀ j (hj : j < l.length), j < p + 1 → F l[j] < F i := fun j hj h => by
              by_cases e : j = p
              · subst e; rw [hy]; exact hff
              · exact hbef j hj (by omega)
            have BB := Lib.hid hbef'
            have HO := Lib.hid hown
            clear hbef hbef' hown hff hF1 hF2
            go_wp2_with fail
            go_quiet (fail)
            go_wp2
            go_roundw
            case rel => exact ⟨p + 1, by omega, by go_num, BB.out, HO.out, below_dn hb _⟩
            case measure => simp [intOf]; omega
          · have hd : decide (f1 k < f1' k) = false := decide_eq_false (by omega)
            have haft : ∀ h : p < l.length, ¬ F l[p] < F i := fun h => by rw [hy]; exact hff
            have INS := Lib.hid (ins_at F i l p (by rw [hlen.out]; omega) hbef haft)
            clear hff hF1 hF2 hbef haft
            go_wp2_with fail
            go_quiet (fail)
            clear x0 x0' z1 z2 hcy hd hy
            have hgl := (hown.lt g rfl).2
            have hcap := owns_cap hown
            have HO := Lib.hid hown
            clear hown
            obtain ⟨ji0, jz0, jz1, jz2⟩ := J.out
            go_wp2_with (at_builtin; refine wp_app rfl _ _ _ rfl w.heap.size 3 i0 (.int .i64 0) 1 8 Try.underlying27 ji0 jz0 jz1 jz2 rfl (by omega) wr.heap.size 0 0 [] rfl (World.ownsRow_made (base := w.heap.size) (size := 1) (e := 3) (wr.drewN nq) #[] 0 hb.size (by unfold maxLen; omega) (by simp)) ⟨g, 0, none⟩ p cp (nats (l.take p)) rfl ?c1 ?c2 nats_one ?c3 ?c4 ?c5 (wr.heap.size + 1) ?c6 ?_)
            case c1 => rw [nats_len, List.length_take, hlen.out]; omega
            case c2 => have := nats_news (w := (wr.drewN nq).alloc (.cells #[] 3)) (World.ownsRow.alloc (w := wr.drewN nq) HO.out _) 0 p; simpa using this
            case c3 => unfold maxLen; omega
            case c4 => omega
            case c5 => have := hb.size; simp; omega
            case c6 => simp
            intro g1 k1 w1 hown1 hg1 hat1 hlt1
            have hk1 := owns_cap hown1
            have hO1 := owns_grown (World.ownsRow.alloc (w := wr.drewN nq) HO.out (.cells #[] 3)) hg1 (by simp [Value.ownBlock]; omega)
            have hG1 : w.heap.size ≤ w1.heap.size := by have h1 := hb.size; have h2 := hg1.size; simp at h2; omega
            have hb1 : Below w.heap.size w w1 := (show Below w.heap.size w ((wr.drewN nq).alloc (.cells #[] 3)) from (below_dn hb nq).alloc hb.size _).grown hg1 (by have := hb.size; simp; omega) (fun k e => by injection e with e; have := hb.size; omega)
            have A1 := Lib.hid hown1
            have B1 := Lib.hid hO1
            clear hown1 hO1 hg1 HO
            go_wp2_with (at_builtin; refine wp_app rfl _ _ _ rfl w.heap.size 3 i0 (.int .i64 0) 1 8 Try.underlying27 ji0 jz0 jz1 jz2 rfl (by omega) g1 k1 p (nats (l.take p)) rfl (A1.out.alloc _) ⟨w1.heap.size, 0, none⟩ 1 1 [.int .i64 (i : Int)] rfl rfl ?d2 ?d1 ?d3 ?d4 ?d5 (w1.heap.size + 1) ?d6 ?_)
            case d2 => exact World.news_of_block (cs := #[.int .i64 (i : Int)]) (t := 3) (fr := (0, 0)) (heap_alloc_new w1 _)
            case d1 => simp [Value.oneCell']
            case d3 => unfold maxLen; omega
            case d4 => omega
            case d5 => simp; omega
            case d6 => simp
            intro g2 k2 w2 hown2 hg2 hat2 hlt2
            have hk2 := owns_cap hown2
            have hO2 := owns_grown (B1.out.alloc _) hg2 (by simp [Value.ownBlock]; omega)
            have hb2 : Below w.heap.size w w2 := (show Below w.heap.size w (w1.alloc (.cells #[.int .i64 (i : Int)] 3)) from hb1.alloc hG1 _).grown hg2 (by simp; omega) (fun k e => by injection e with e; omega)
            have hG2 : w.heap.size ≤ w2.heap.size := hb2.size
            have A2 := Lib.hid hown2
            have B2 := Lib.hid hO2
            clear hown2 hO2 hg2 A1 B1 hb1
            have s1 : (p : Int) ≤ (i : Int) := by omega
            have s2 : (0 : Int) ≤ (p : Int) := by omega
            have s3 : (i : Int) ≤ (cp : Int) := by omega
            go_wp2_with (at_builtin; refine wp_app rfl _ _ _ rfl w.heap.size 3 i0 (.int .i64 0) 1 8 Try.underlying27 ji0 jz0 jz1 jz2 rfl (by omega) g2 k2 (p + 1) (nats (l.take p) ++ [.int .i64 (i : Int)]) rfl A2.out ⟨g, p, none⟩ (i - p) (cp - p) (nats (l.drop p)) rfl ?e1 ?e2 nats_one ?e3 ?e4 ?e5 w2.heap.size rfl ?_)
            case e1 => rw [nats_len, List.length_drop, hlen.out]; omega
            case e2 => have := nats_news B2.out p (i - p); rwa [List.take_of_length_le (by rw [List.length_drop, hlen.out]; omega)] at this
            case e3 => unfold maxLen; omega
            case e4 => omega
            case e5 => omega
            intro g3 k3 w3 hown3 hg3 hat3 hlt3
            have hb3 : Below w.heap.size w w3 := hb2.grown hg3 hG2 (fun k e => by injection e with e; omega)
            have HH : OrdR w 3 m F (.slice (some ⟨g3, 0, none⟩) (p + 1 + (i - p)) k3) (.int .i64 ((i : Int) + 1)) w3 := by
              have e : p + 1 + (i - p) = i + 1 := by omega
              rw [e] at hown3 ⊢
              refine ⟨i + 1, g3, k3, ins F i l, by omega, by go_num, rfl, ?_, ?_, ?_, hb3⟩
              · show ins F i (ordN F i) = _; rw [hl.out]
              · show (ins F i l).length = _; rw [ins_len, hlen.out]
              · have hi2 := INS.out
                rw [hi2, show nats (l.take p ++ i :: l.drop p) = nats (l.take p) ++ .int .i64 (i : Int) :: nats (l.drop p) by simp [nats]]
                first | exact hown3 | simpa using hown3
            clear hown3 hg3 A2 B2 hb2 hb3 hb
            go_wp2_with fail
            go_roundw
            case rel => exact HH
            case measure => simp [intOf]; omega
        · obtain ⟨i, rfl⟩ : ∃ r, r = i := ⟨_, rfl⟩
          obtain rfl : p = i := by omega
          have hd : decide ((p : Int) < (p : Int)) = false := decide_eq_false (by omega)
          have haft : ∀ h : p < l.length, ¬ F l[p] < F p := fun h => absurd h (by rw [hlen.out]; omega)
          have INS := Lib.hid (ins_at F p l p (by rw [hlen.out]; omega) hbef haft)
          clear hbef haft
          go_wp2_with fail
          go_quiet (fail)
          have hgl := (hown.lt g rfl).2
          have hcap := owns_cap hown
          have HO := Lib.hid hown
          clear hown
          obtain ⟨ji0, jz0, jz1, jz2⟩ := J.out
          go_wp2_with (at_builtin; refine wp_app rfl _ _ _ rfl w.heap.size 3 i0 (.int .i64 0) 1 8 Try.underlying27 ji0 jz0 jz1 jz2 rfl (by omega) wr.heap.size 0 0 [] rfl (World.ownsRow_made (base := w.heap.size) (size := 1) (e := 3) (wr.drewN nq) #[] 0 hb.size (by unfold maxLen; omega) (by simp)) ⟨g, 0, none⟩ p cp (nats (l.take p)) rfl ?c1 ?c2 nats_one ?c3 ?c4 ?c5 (wr.heap.size + 1) ?c6 ?_)
          case c1 => rw [nats_len, List.length_take, hlen.out]; omega
          case c2 => have := nats_news (w := (wr.drewN nq).alloc (.cells #[] 3)) (World.ownsRow.alloc (w := wr.drewN nq) HO.out _) 0 p; simpa using this
          case c3 => unfold maxLen; omega
          case c4 => omega
          case c5 => have := hb.size; simp; omega
          case c6 => simp
          intro g1 k1 w1 hown1 hg1 hat1 hlt1
          have hk1 := owns_cap hown1
          have hO1 := owns_grown (World.ownsRow.alloc (w := wr.drewN nq) HO.out (.cells #[] 3)) hg1 (by simp [Value.ownBlock]; omega)
          have hG1 : w.heap.size ≤ w1.heap.size := by have h1 := hb.size; have h2 := hg1.size; simp at h2; omega
          have hb1 : Below w.heap.size w w1 := (show Below w.heap.size w ((wr.drewN nq).alloc (.cells #[] 3)) from (below_dn hb nq).alloc hb.size _).grown hg1 (by have := hb.size; simp; omega) (fun k e => by injection e with e; have := hb.size; omega)
          have A1 := Lib.hid hown1
          have B1 := Lib.hid hO1
          clear hown1 hO1 hg1 HO
          go_wp2_with (at_builtin; refine wp_app rfl _ _ _ rfl w.heap.size 3 i0 (.int .i64 0) 1 8 Try.underlying27 ji0 jz0 jz1 jz2 rfl (by omega) g1 k1 p (nats (l.take p)) rfl (A1.out.alloc _) ⟨w1.heap.size, 0, none⟩ 1 1 [.int .i64 (p : Int)] rfl rfl ?d2 ?d1 ?d3 ?d4 ?d5 (w1.heap.size + 1) ?d6 ?_)
          case d2 => exact World.news_of_block (cs := #[.int .i64 (p : Int)]) (t := 3) (fr := (0, 0)) (heap_alloc_new w1 _)
          case d1 => simp [Value.oneCell']
          case d3 => unfold maxLen; omega
          case d4 => omega
          case d5 => simp; omega
          case d6 => simp
          intro g2 k2 w2 hown2 hg2 hat2 hlt2
          have hk2 := owns_cap hown2
          have hO2 := owns_grown (B1.out.alloc _) hg2 (by simp [Value.ownBlock]; omega)
          have hb2 : Below w.heap.size w w2 := (show Below w.heap.size w (w1.alloc (.cells #[.int .i64 (p : Int)] 3)) from hb1.alloc hG1 _).grown hg2 (by simp; omega) (fun k e => by injection e with e; omega)
          have hG2 : w.heap.size ≤ w2.heap.size := hb2.size
          have HH : OrdR w 3 m F (.slice (some ⟨g2, 0, none⟩) (p + 1) k2) (.int .i64 ((p : Int) + 1)) w2 := by
            refine ⟨p + 1, g2, k2, ins F p l, by omega, by go_num, rfl, ?_, ?_, ?_, hb2⟩
            · show ins F p (ordN F p) = _; rw [hl.out]
            · show (ins F p l).length = _; rw [ins_len, hlen.out]
            · have hi2 := INS.out
              rw [hi2, show nats (l.take p ++ p :: l.drop p) = nats (l.take p) ++ [.int .i64 (p : Int)] by rw [List.drop_of_length_le (by rw [hlen.out]; omega)]; simp [nats]]
              first | exact hown2 | simpa using hown2
          clear hown2 hO2 hg2 A1 B1 hb1 hb2 hb
          go_wp2_with fail
          all_goals
            go_roundw
            case rel => exact HH
            case measure => simp [intOf]; omega
    · obtain rfl : i = m := by omega
      have HH : wr.ownsRow w.heap.size 3 1 (.slice (some ⟨g, 0, none⟩) i cp) i (nats (ordN F i)) := by rw [hl.out]; exact hown
      clear hown
      go_wp2
      go_ret
      exact ⟨g, cp, rfl, HH, hb⟩
end Go.Proofs.Ytjppkcfbhhjniaa
