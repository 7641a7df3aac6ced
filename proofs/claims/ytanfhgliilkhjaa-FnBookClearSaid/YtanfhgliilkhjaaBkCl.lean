/-
  Contracts of begins, CodeBegins, BookClear, the program's and the reference's.
-/
import Derived.Test.YtanfhgliilkhjaaBkQ
namespace Go.Proofs.Ytanfhgliilkhjaa
open Go.RowKit Go.Deep
set_option linter.unusedVariables false

/-- A list that begins another one. -/
def begV (d e : LD) : Prop := d.n < e.n ∧ ∀ i, i < d.n → e.f i = d.f i
instance (d e : LD) : Decidable (begV d e) := by unfold begV; exact inferInstance
def clearV (D : Nat → LD) (m : Nat) : Prop := bookV D m ∧ ∀ i j, i < m → j < m → ¬ begV (D i) (D j)
theorem some_bool (P : Prop) : ∃ v : Bool, v = true ↔ P := by
  rcases Classical.em P with h | h
  · exact ⟨true, fun _ => h, fun _ => rfl⟩
  · exact ⟨false, fun x => (by cases x), fun x => absurd x h⟩
theorem bool_no {v : Bool} {P : Prop} (h : v = true ↔ P) (hn : ¬ P) : v = false := by
  cases v
  · rfl
  · exact absurd (h.1 rfl) hn
theorem bool_yes {v : Bool} {P : Prop} (h : v = true ↔ P) (hp : P) : v = true := h.2 hp
theorem iBegins (d e : LD) (w : World) (hd : grpV d.n d.f) (he : grpV e.n e.f) (hdn : d.n ≤ 1000) (hen : e.n ≤ 1000) (v : Bool) (hv : Hid (v = true ↔ begV d e)) :
    Calls Try.prog 72 #[.string (txt d.n d.f), .string (txt e.n e.f)] w fun x w' => x = .returned (.bool v) ∧ w' = w := by
  have z1 := txt_size d.n d.f
  have z2 := txt_size e.n e.f
  by_cases h : d.n < e.n
  · have d1 : decide ((d.n : Int) < (e.n : Int)) = true := decide_eq_true (by omega)
    have d2 : decide (d.n < e.n) = true := decide_eq_true h
    have H := Lib.hid (iStands d e.n e.f w hd he hdn hen v ⟨fun x => ⟨by omega, (hv.out.1 x).2⟩, fun x => hv.out.2 ⟨h, x.2⟩⟩)
    clear hv
    go_enter Try.func72, Try.ntmps72
    go_wp2_with fail
    refine H.out.mono ?_
    rintro x w1 ⟨rfl, rfl⟩
    go_wp2
    go_ret
    exact ⟨rfl, rfl⟩
  · have d1 : decide ((d.n : Int) < (e.n : Int)) = false := decide_eq_false (by omega)
    have d2 : decide (d.n < e.n) = false := decide_eq_false h
    obtain rfl := bool_no hv.out (fun x => h x.1)
    clear hv
    go_enter Try.func72, Try.ntmps72
    go_wp2
    go_ret
    exact ⟨rfl, rfl⟩
set_option maxHeartbeats 1000000 in
theorem iCodeBegins (A : Option Addr) (c : Nat) (d : LD) (E : Option Addr) (c2 : Nat) (e : LD) (w : World) (h1 : Rn w w.heap.size A d.n d.f) (h2 : Rn w w.heap.size E e.n e.f) (hd : d.n ≤ 1048576) (he : e.n ≤ 1048576) (v : Bool) (hv : Hid (v = true ↔ (codeV d ∧ codeV e ∧ begV d e))) :
    Calls Try.prog 38 #[.slice A d.n c, .slice E e.n c2] w fun x w' => x = .returned (.bool v) ∧ Below w.heap.size w w' := by
  have H1 := Lib.hid (iCode A d.n c d.f w h1 hd)
  have H2 := Lib.hid h2
  clear h1 h2
  go_enter Try.func38, Try.ntmps38
  go_wp2_with fail
  refine H1.out.mono ?_
  rintro x w1 ⟨⟨hp, rfl⟩ | ⟨hp, rfl⟩, hb⟩
  rotate_left
  · obtain rfl := bool_no hv.out (fun x => hp x.1)
    have HB := Lib.hid hb
    have HR := Lib.hid (H2.out.topb hb)
    clear hp hb hv H1 H2
    go_wp2_with fail
    refine (iCode E e.n c2 e.f _ HR.out he).mono ?_
    rintro x w2 ⟨⟨hp2, rfl⟩ | ⟨hp2, rfl⟩, hb2⟩
    all_goals
      have HB2 := Lib.hid (bl HB.out (Nat.le_refl _) hb2)
      clear hp2 hb2
      go_wp2
      go_ret
      exact ⟨rfl, HB2.out⟩
  have HP := Lib.hid hp
  have HB := Lib.hid hb
  have HR := Lib.hid (H2.out.topb hb)
  clear hp hb H1 H2
  go_wp2_with fail
  refine (iCode E e.n c2 e.f _ HR.out he).mono ?_
  rintro x w2 ⟨⟨hp2, rfl⟩ | ⟨hp2, rfl⟩, hb2⟩
  · have HB2 := Lib.hid (bl HB.out (Nat.le_refl _) hb2)
    have HX := Lib.hid (fun W => iBegins d e W HP.out.2 hp2.2 (by have := HP.out.1; simp only [] at this; omega) (by have := hp2.1; simp only [] at this; omega) v ⟨fun x => (hv.out.1 x).2.2, fun x => hv.out.2 ⟨HP.out, hp2, x⟩⟩)
    clear hp2 hb2 hv
    go_wp2_with fail
    refine (HX.out _).mono ?_
    rintro x w3 ⟨rfl, rfl⟩
    go_wp2
    go_ret
    exact ⟨rfl, HB2.out⟩
  · obtain rfl := bool_no hv.out (fun x => hp2 x.2.1)
    have HB2 := Lib.hid (bl HB.out (Nat.le_refl _) hb2)
    clear hp2 hb2 hv
    go_wp2
    go_ret
    exact ⟨rfl, HB2.out⟩
set_option maxHeartbeats 1000000 in
theorem sCodeBegins (A : Option Addr) (c : Nat) (d : LD) (E : Option Addr) (c2 : Nat) (e : LD) (w : World) (h1 : Rn w w.heap.size A d.n d.f) (h2 : Rn w w.heap.size E e.n e.f) (hd : d.n ≤ 1048576) (he : e.n ≤ 1048576) (hec : e.n ≤ c2) (v : Bool) (hv : Hid (v = true ↔ (codeV d ∧ codeV e ∧ begV d e))) :
    Calls Try.prog 73 #[.slice A d.n c, .slice E e.n c2] w fun x w' => x = .returned (.bool v) ∧ ∃ q, w' = w.drewN q := by
  obtain ⟨v1, hv1⟩ := some_bool (codeV d)
  obtain ⟨v2, hv2⟩ := some_bool (codeV e)
  have C1 := Lib.hid (sCode A d.n c d.f w h1 hd v1 hv1)
  have C2 := Lib.hid (sCode E e.n c2 e.f w h2 he v2 hv2)
  have R1 := Lib.hid h1
  have R2 := Lib.hid h2
  have V1 := Lib.hid hv1
  have V2 := Lib.hid hv2
  clear h1 h2 hv1 hv2
  go_enter Try.func73, Try.ntmps73
  go_wp2_with fail
  refine C1.out.mono ?_
  rintro x w1 ⟨rfl, rfl⟩
  cases v1
  · obtain rfl := bool_no hv.out (fun x => by have := V1.out.2 x.1; cases this)
    go_wp2
    go_ret
    exact ⟨rfl, 0, rfl⟩
  go_wp2_with fail
  refine C2.out.mono ?_
  rintro x w1 ⟨rfl, rfl⟩
  cases v2
  · obtain rfl := bool_no hv.out (fun x => by have := V2.out.2 x.2.1; cases this)
    go_wp2
    go_ret
    exact ⟨rfl, 0, rfl⟩
  by_cases hl : d.n < e.n
  · have d1 : decide ((d.n : Int) < (e.n : Int)) = true := decide_eq_true (by omega)
    have d2 : decide (d.n < e.n) = true := decide_eq_true hl
    have k1 : (d.n : Int) ≤ (c2 : Int) := by omega
    have hL := l1same A d.n c d.f E d.n c2 e.f w1 R1.out (R2.out.less (by omega)) (by omega) (by omega)
    have he : eqI d.n d.f d.n e.f = v := by
      cases hb : eqI d.n d.f d.n e.f
      · symm
        refine bool_no hv.out (fun x => ?_)
        have : eqI d.n d.f d.n e.f = true := eqI_yes (fun i hi => (x.2.2.2 i hi).symm)
        rw [hb] at this; cases this
      · symm
        refine hv.out.2 ⟨V1.out.1 (by trivial), V2.out.1 (by trivial), hl, fun i hi => ?_⟩
        exact (((eqI_iff (d := ⟨d.n, d.f⟩) (e := ⟨d.n, e.f⟩)).1 hb).2 i hi).symm
    rw [he] at hL
    have HL := Lib.hid hL
    clear hL he hv hl
    go_wp2_with fail
    refine HL.out.mono ?_
    rintro x w2 ⟨rfl, q, rfl⟩
    go_wp2
    go_ret
    exact ⟨rfl, q, rfl⟩
  · have d1 : decide ((d.n : Int) < (e.n : Int)) = false := decide_eq_false (by omega)
    have d2 : decide (d.n < e.n) = false := decide_eq_false hl
    obtain rfl := bool_no hv.out (fun x => hl x.2.2.1)
    clear hv
    go_wp2
    go_ret
    exact ⟨rfl, 0, rfl⟩
set_option maxRecDepth 100000 in
set_option maxHeartbeats 4000000 in
theorem iClear (A : Option Addr) (m c : Nat) (D : Nat → LD) (w : World) (h : SsRn w w.heap.size A m D) (hm : m ≤ 1048576) (hD : ∀ i, i < m → (D i).n ≤ 1048576) (v : Bool) (hv : Hid (v = true ↔ clearV D m)) :
    Calls Try.prog 36 #[.slice A m c] w fun e w' => e = .returned (.bool v) ∧ Below w.heap.size w w' := by
  have HB := Lib.hid (iBook A m c D w h hm hD)
  clear h hD
  go_enter Try.func36, Try.ntmps36
  go_wp2_with fail
  refine HB.out.mono ?_
  rintro e w1 ⟨⟨hp, A1, c1, rfl, hS⟩ | ⟨hp, rfl⟩, hb⟩
  rotate_left
  · obtain rfl := bool_no hv.out (fun x => hp x.1)
    have HB1 := Lib.hid hb
    clear hp hb hv
    go_wp2
    go_ret
    exact ⟨rfl, HB1.out⟩
  have HP := Lib.hid hp
  have hm10 : m ≤ 10 := hp.1
  have HS := Lib.hid hS
  have HB1 := Lib.hid hb
  clear hp hS hb
  go_wp2_with fail
  go_loopw [18] (fun i wr => ∃ k : Nat, k ≤ m ∧ i = .int .i64 k ∧ Hid (∀ s t, s < k → t < m → ¬ begV (D s) (D t)) ∧ wr = w1) (fun i _ => (m - intOf i).toNat)
  case atStart => exact ⟨0, Nat.zero_le _, rfl, fun s t h => absurd h (by omega), rfl⟩
  case round =>
    obtain ⟨k, hk, rfl, hN, rfl⟩ := hrel
    by_cases hlt : k < m
    · obtain ⟨b2, rfl, hb2, hst⟩ := HS.out (by omega)
      have cx := hst k hlt
      have HST := Lib.hid hst
      have k0 : (0 : Int) ≤ (k : Int) := by omega
      have k1 : (k : Int) < (m : Int) := by omega
      clear hst
      go_wp2_with fail
      go_loopw [24] (fun i wq => ∃ j : Nat, j ≤ m ∧ i = .int .i64 j ∧ Hid (∀ t, t < j → ¬ begV (D k) (D t)) ∧ wq = wr) (fun i _ => (m - intOf i).toNat)
      case atStart => exact ⟨0, Nat.zero_le _, rfl, fun t h => absurd h (by omega), rfl⟩
      case round =>
        obtain ⟨j, hj, rfl, hM, rfl⟩ := hrel
        by_cases hjt : j < m
        · have cy := HST.out j hjt
          have hck := (HP.out.2 k hlt).1
          have hcj := (HP.out.2 j hjt).1
          have j0 : (0 : Int) ≤ (j : Int) := by omega
          have j1 : (j : Int) < (m : Int) := by omega
          by_cases hbg : begV (D k) (D j)
          · obtain rfl := bool_no hv.out (fun x => x.2 k j hlt hjt hbg)
            have HX := Lib.hid (fun W => iBegins (D k) (D j) W hck.2 hcj.2 (by have := hck.1; omega) (by have := hcj.1; omega) true ⟨fun _ => hbg, fun _ => rfl⟩)
            have HB2 := Lib.hid HB1.out
            clear hbg hck hcj hv hM hN
            go_wp2_with fail
            refine (HX.out _).mono ?_
            rintro x w3 ⟨rfl, rfl⟩
            go_wp2
            go_ret
            exact ⟨rfl, HB2.out⟩
          · have HX := Lib.hid (fun W => iBegins (D k) (D j) W hck.2 hcj.2 (by have := hck.1; omega) (by have := hcj.1; omega) false ⟨fun x => (by cases x), fun x => absurd x hbg⟩)
            have hM2 : Hid (∀ t, t < j + 1 → ¬ begV (D k) (D t)) := fun t ht => by
              by_cases e : t = j
              · subst e; exact hbg
              · exact hM.out t (by omega)
            clear hbg hck hcj
            go_wp2_with fail
            refine (HX.out _).mono ?_
            rintro x w3 ⟨rfl, rfl⟩
            go_wp2
            go_roundw
            case rel => exact ⟨j + 1, by omega, by go_num, hM2, by trivial⟩
            case measure => simp [intOf]; omega
        · obtain rfl : j = m := by omega
          have hN2 : Hid (∀ s t, s < k + 1 → t < j → ¬ begV (D s) (D t)) := fun s t hs ht => by
            by_cases e : s = k
            · subst e; exact hM.out t ht
            · exact hN.out s t (by omega) ht
          go_wp2
          go_roundw
          case rel => exact ⟨k + 1, by omega, by go_num, hN2, by trivial⟩
          case measure => simp [intOf]; omega
    · obtain rfl : k = m := by omega
      obtain rfl := bool_yes hv.out ⟨HP.out, fun i j hi hj => hN.out i j hi hj⟩
      have HB2 := Lib.hid HB1.out
      clear hv
      go_wp2
      go_ret
      exact ⟨rfl, HB2.out⟩
set_option maxRecDepth 100000 in
set_option maxHeartbeats 4000000 in
theorem sClear (A : Option Addr) (m c : Nat) (D : Nat → LD) (w : World) (h : SsRn w w.heap.size A m D) (hm : m ≤ 1048576) (hD : ∀ i, i < m → (D i).n ≤ 1048576) (v : Bool) (hv : Hid (v = true ↔ clearV D m)) (hcap : Hid (∀ i, i < m → ∀ b off, A = some ⟨b, off, none⟩ → ∀ a n c', w.cell? ⟨b, off + i, none⟩ = some (.slice a n c') → n ≤ c')) :
    Calls Try.prog 37 #[.slice A m c] w fun e w' => e = .returned (.bool v) ∧ Below w.heap.size w w' := by
  have H := Lib.hid h
  have HD := Lib.hid hD
  clear h hD
  go_enter Try.func37, Try.ntmps37
  go_wp2_with fail
  go_loopw [3] (fun i wr => ∃ k : Nat, k ≤ m ∧ i = .int .i64 k ∧ Hid (∀ s t, s < k → t < m → ¬ (codeV (D s) ∧ codeV (D t) ∧ begV (D s) (D t))) ∧ Hid (∃ q, wr = w.drewN q)) (fun i _ => (m - intOf i).toNat)
  case atStart => exact ⟨0, Nat.zero_le _, rfl, fun s t h => absurd h (by omega), 0, rfl⟩
  case round =>
    obtain ⟨k, hk, rfl, hN, hq⟩ := hrel
    by_cases hlt : k < m
    · go_wp2_with fail
      go_loopw [4] (fun i wq => ∃ j : Nat, j ≤ m ∧ i = .int .i64 j ∧ Hid (∀ t, t < j → ¬ (codeV (D k) ∧ codeV (D t) ∧ begV (D k) (D t))) ∧ Hid (∃ q, wq = w.drewN q)) (fun i _ => (m - intOf i).toNat)
      case atStart => exact ⟨0, Nat.zero_le _, rfl, fun t h => absurd h (by omega), hq.out⟩
      case round =>
        clear hq
        obtain ⟨j, hj, rfl, hM, hq⟩ := hrel
        by_cases hjt : j < m
        · obtain ⟨b, off, a1, c1, n1, f1, rfl, hbB, hDk, x0, r1⟩ := H.out.at_ hlt
          obtain ⟨b', off', a2, c2, n2, f2, e', hbB', hDj, y0, r2⟩ := H.out.at_ hjt
          simp only [Option.some.injEq, Addr.mk.injEq, and_true] at e'
          obtain ⟨rfl, rfl⟩ := e'
          have hn1 : n1 ≤ 1048576 := by have := HD.out k hlt; rw [hDk] at this; exact this
          have hn2 : n2 ≤ 1048576 := by have := HD.out j hjt; rw [hDj] at this; exact this
          have hcp2 := hcap.out j hjt _ _ rfl _ _ _ y0
          have R1 : Hid (Rn wr wr.heap.size a1 n1 f1) := by obtain ⟨q2, rfl⟩ := hq.out; exact r1
          have R2 : Hid (Rn wr wr.heap.size a2 n2 f2) := by obtain ⟨q2, rfl⟩ := hq.out; exact r2
          have x1 : wr.cell? ⟨b, off + k, none⟩ = some (.slice a1 n1 c1) := by obtain ⟨q2, rfl⟩ := hq.out; exact x0
          have y1 : wr.cell? ⟨b, off + j, none⟩ = some (.slice a2 n2 c2) := by obtain ⟨q2, rfl⟩ := hq.out; exact y0
          have k0 : (0 : Int) ≤ (k : Int) := by omega
          have k1 : (k : Int) < (m : Int) := by omega
          have j0 : (0 : Int) ≤ (j : Int) := by omega
          have j1 : (j : Int) < (m : Int) := by omega
          by_cases hbg : codeV (D k) ∧ codeV (D j) ∧ begV (D k) (D j)
          · obtain rfl := bool_no hv.out (fun x => x.2 k j hlt hjt hbg.2.2)
            rw [hDk, hDj] at hbg
            have HX := Lib.hid (fun (z : Nat) => sCodeBegins a1 c1 ⟨n1, f1⟩ a2 c2 ⟨n2, f2⟩ (wr.drewN z) R1.out R2.out hn1 hn2 hcp2 true ⟨fun _ => hbg, fun _ => rfl⟩)
            clear hbg hv hM hN x0 y0 r1 r2 hDk hDj
            go_wp2
            go_quiet (first | (go_at_call 73; exact Calls.quiet_of (HX.out _)))
            go_wp2
            go_ret
            exact ⟨rfl, by obtain ⟨q2, rfl⟩ := hq.out; exact below_dn (below_dn (Below.refl _ _) q2) _⟩
          · have hM2 : Hid (∀ t, t < j + 1 → ¬ (codeV (D k) ∧ codeV (D t) ∧ begV (D k) (D t))) := fun t ht => by
              by_cases e : t = j
              · subst e; exact hbg
              · exact hM.out t (by omega)
            rw [hDk, hDj] at hbg
            have HX := Lib.hid (fun (z : Nat) => sCodeBegins a1 c1 ⟨n1, f1⟩ a2 c2 ⟨n2, f2⟩ (wr.drewN z) R1.out R2.out hn1 hn2 hcp2 false ⟨fun x => (by cases x), fun x => absurd x hbg⟩)
            clear hbg x0 y0 r1 r2 hDk hDj
            go_wp2
            go_quiet (first | (go_at_call 73; exact Calls.quiet_of (HX.out _)))
            go_wp2
            go_roundw
            case rel => exact ⟨j + 1, by omega, by go_num, hM2, by obtain ⟨q2, rfl⟩ := hq.out; exact ⟨_, World.drewN_drewN _ _ _⟩⟩
            case measure => simp [intOf]; omega
        · obtain rfl : j = m := by omega
          have hN2 : Hid (∀ s t, s < k + 1 → t < j → ¬ (codeV (D s) ∧ codeV (D t) ∧ begV (D s) (D t))) := fun s t hs ht => by
            by_cases e : s = k
            · subst e; exact hM.out t ht
            · exact hN.out s t (by omega) ht
          go_wp2
          go_roundw
          case rel => exact ⟨k + 1, by omega, by go_num, hN2, hq⟩
          case measure => simp [intOf]; omega
    · obtain rfl : k = m := by omega
      have hbv : Hid (v = true ↔ bookV D k) := ⟨fun x => (hv.out.1 x).1, fun x => hv.out.2 ⟨x, fun i j hi hj hb => hN.out i j hi hj ⟨(x.2 i hi).1, (x.2 j hj).1, hb⟩⟩⟩
      obtain ⟨q, rfl⟩ := hq.out
      clear hv hN
      go_wp2_with fail
      refine (sBook A k c D (w.drewN q) H.out hm HD.out v hbv).mono ?_
      rintro e w2 ⟨rfl, hb2⟩
      have HB2 := Lib.hid (bl (below_dn (Below.refl w.heap.size w) q) (Nat.le_refl _) hb2)
      clear hb2
      go_wp2
      go_ret
      exact ⟨rfl, HB2.out⟩
end Go.Proofs.Ytanfhgliilkhjaa
