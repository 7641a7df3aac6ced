/-
  Contracts of BookRing, the program's and the reference's.
-/
import Derived.Test.YtanfhgliilkhjaaBkV
import Derived.Test.YtanfhgliilkhjaaBkL
import Derived.Test.YtanfhgliilkhjaaBkP
namespace Go.Proofs.Ytanfhgliilkhjaa
open Go.RowKit Go.Deep
set_option linter.unusedVariables false

/-- The groups that the first k indexes ring. -/
def rng (D : Nat → LD) (f : Nat → Int) : Nat → List Int
  | 0 => []
  | k + 1 => rng D f k ++ lst (D (f k).toNat).f (D (f k).toNat).n
theorem rng_mono (D : Nat → LD) (f : Nat → Int) {k n : Nat} (h : k ≤ n) : (rng D f k).length ≤ (rng D f n).length := by
  induction n with
  | zero => rw [show k = 0 by omega]; exact Nat.le_refl _
  | succ n ih =>
    by_cases e : k = n + 1
    · subst e; exact Nat.le_refl _
    · have := ih (by omega)
      show _ ≤ (rng D f n ++ _).length
      rw [List.length_append]; omega
def ringV (D : Nat → LD) (m n : Nat) (f : Nat → Int) : Prop := bookV D m ∧ (∀ i, i < n → 0 ≤ f i ∧ f i < m) ∧ (rng D f n).length ≤ 20
/-- Numbers as cells. -/
def ints (xs : List Int) : List Value := xs.map (Value.int .i64)
theorem ints_len (xs : List Int) : (ints xs).length = xs.length := by simp [ints]
theorem ints_at {xs : List Int} {i : Nat} (h : i < xs.length) : (ints xs)[i]? = some (.int .i64 (xs.getD i 0)) := by
  simp [ints, List.getD, h]
theorem ints_app (xs : List Int) (n : Nat) (f : Nat → Int) : ints xs ++ cellsN n f = ints (xs ++ lst f n) := by simp [ints, cellsN, lst]
/-- What BookRing hands back. -/
def RingRes (w : World) (ok : Bool) (xs : List Int) (e : Ending) (w' : World) : Prop :=
  ∃ g c : Nat, e = .returned (.tuple #[.slice (some ⟨g, 0, none⟩) xs.length c, .bool ok]) ∧ (w.heap.size ≤ g ∧ g < w'.heap.size ∧ xs.length ≤ c ∧ c ≤ maxLen) ∧ Ow w' g (some ⟨g, 0, none⟩) xs.length (fun i => xs.getD i 0) ∧ Below w.heap.size w w'
theorem ringRes_of {w w' : World} {base T g c n : Nat} {xs : List Int} {ok : Bool} (hn : xs.length = n) (h : w'.ownsRow base T 1 (.slice (some ⟨g, 0, none⟩) n c) n (ints xs)) (hb : w.heap.size ≤ base) (hB : Below w.heap.size w w') : RingRes w ok xs (.returned (.tuple #[.slice (some ⟨g, 0, none⟩) n c, .bool ok])) w' := by
  subst hn
  have h1 := owns_cap h
  exact ⟨g, c, rfl, ⟨by omega, (h.lt g rfl).2, h1.1, h1.2.1⟩, Ow.of_owns h (fun i hi => ints_at hi), hB⟩
theorem ringRes_nil {w w' : World} {g : Nat} (h1 : w.heap.size ≤ g) (h2 : g < w'.heap.size) (hB : Below w.heap.size w w') : RingRes w false [] (.returned (.tuple #[.slice (some ⟨g, 0, none⟩) 0 0, .bool false])) w' :=
  ⟨g, 0, rfl, ⟨h1, h2, Nat.le_refl _, Nat.zero_le _⟩, Ow.nil _ _ _ _, hB⟩
def RingV (D : Nat → LD) (m n : Nat) (f : Nat → Int) (ok : Bool) (xs : List Int) : Prop := (ringV D m n f ∧ ok = true ∧ xs = rng D f n) ∨ (¬ ringV D m n f ∧ ok = false ∧ xs = [])
theorem RingV.no {D : Nat → LD} {m n : Nat} {f : Nat → Int} {ok : Bool} {xs : List Int} (h : RingV D m n f ok xs) (hn : ¬ ringV D m n f) : ok = false ∧ xs = [] := by
  rcases h with h | h
  · exact absurd h.1 hn
  · exact h.2
theorem RingV.yes {D : Nat → LD} {m n : Nat} {f : Nat → Int} {ok : Bool} {xs : List Int} (h : RingV D m n f ok xs) (hn : ringV D m n f) : ok = true ∧ xs = rng D f n := by
  rcases h with h | h
  · exact h.2
  · exact absurd hn h.1
theorem StRn.keep {w w' : World} {B m : Nat} {A : Option Addr} {D : Nat → LD} (h : StRn w B A m D) (hk : ∀ k, k < B → w'.heap[k]? = w.heap[k]?) : StRn w' B A m D := fun hn => by
  obtain ⟨b, e, hb, hc⟩ := h hn
  exact ⟨b, e, hb, fun i hi => (World.cell?_of_block (a := ⟨b, i, none⟩) (hk b hb)).trans (hc i hi)⟩
theorem StRn.below {w w' : World} {B m : Nat} {A : Option Addr} {D : Nat → LD} (h : StRn w B A m D) (hb : Below B w w') : StRn w' B A m D := h.keep hb.block
theorem StRn.up {w : World} {B C m : Nat} {A : Option Addr} {D : Nat → LD} (h : StRn w B A m D) (hC : B ≤ C) : StRn w C A m D := fun hn => by
  obtain ⟨b, e, hb, hc⟩ := h hn
  exact ⟨b, e, by omega, hc⟩
theorem ringV_no1 {D : Nat → LD} {m n k : Nat} {f : Nat → Int} (hk : k < n) (h : ¬ (0 ≤ f k ∧ f k < m)) : ¬ ringV D m n f := fun x => h (x.2.1 k hk)
theorem ringV_no2 {D : Nat → LD} {m n k : Nat} {f : Nat → Int} (hk : k ≤ n) (h : 20 < (rng D f k).length) : ¬ ringV D m n f := fun x => by
  have := rng_mono D f hk
  have := x.2.2
  omega
/-- Between two rounds. -/
def RingR (w : World) (B : Nat) (T : TypeId) (D : Nat → LD) (m n : Nat) (f : Nat → Int) (v i : Value) (wr : World) : Prop :=
  ∃ (k g cp z : Nat), k ≤ n ∧ i = .int .i64 k ∧ v = .slice (some ⟨g, 0, none⟩) z cp ∧ z ≤ 20 ∧ Hid ((rng D f k).length = z) ∧ Hid (∀ j, j < k → 0 ≤ f j ∧ f j < m) ∧ Hid (wr.ownsRow B T 1 (.slice (some ⟨g, 0, none⟩) z cp) z (ints (rng D f k))) ∧ Hid (Below w.heap.size w wr)
set_option maxRecDepth 100000 in
set_option maxHeartbeats 4000000 in
theorem iRing (A : Option Addr) (m c : Nat) (D : Nat → LD) (E : Option Addr) (n d : Nat) (f : Nat → Int) (w : World) (h : SsRn w w.heap.size A m D) (hm : m ≤ 1048576) (hD : ∀ i, i < m → (D i).n ≤ 1048576)
    (hE : Rn w w.heap.size E n f) (hn : n ≤ 9223372036854775807) (ok : Bool) (xs : List Int) (hv : Hid (RingV D m n f ok xs)) :
    Calls Try.prog 16 #[.slice A m c, .slice E n d] w (RingRes w ok xs) := by
  obtain ⟨i0, ji0, jz0, jz1, jz2⟩ := info_parts intInfo
  have hmk := fun W : World => run_make (P := Try.prog) W 23 3 i0 (.int .i64 0) Try.underlying23 ji0 jz0 .i64 .i64 0 20 (by omega) (by omega) (by rw [jz2]; omega) (by omega)
  simp only [Int.toNat_zero, jz1, Nat.mul_one] at hmk
  have J := Lib.hid (And.intro ji0 (And.intro jz0 (And.intro jz1 jz2)))
  have HB := Lib.hid (iBook A m c D w h hm hD)
  have HE := Lib.hid hE
  clear ji0 jz0 jz1 jz2 h hD hE
  go_enter Try.func16, Try.ntmps16
  go_wp2_with fail
  refine HB.out.mono ?_
  rintro e w1 ⟨⟨hp, A1, c1, rfl, hS⟩ | ⟨hp, rfl⟩, hb⟩
  rotate_left
  · obtain ⟨rfl, rfl⟩ := hv.out.no (fun x => hp x.1)
    have HB1 := Lib.hid hb
    clear hp hb hmk
    go_wp2
    go_ret2
    have h9 := HB1.out
    have h8 := h9.size
    exact ringRes_nil h8 (by simp) (by go_grown)
  have HP := Lib.hid hp
  have HS := Lib.hid hS
  have HB1 := Lib.hid hb
  have sz1 := hb.size
  have W0 := Lib.hid (World.ownsRow_made (base := w1.heap.size) (size := 1) (e := 3) w1 (madeCells (Value.int .i64 0).cells 20) 20 (Nat.le_refl _) (by unfold maxLen; omega) (by simp [size_madeCells]))
  have hmk1 := hmk w1
  clear hp hS hb hmk
  go_wp2_with fail
  go_loopw [8, 22] (fun v i wr => RingR w w1.heap.size 3 D m n f v i wr ∧ Hid (Below w1.heap.size w1 wr)) (fun _ i _ => (n - intOf i).toNat)
  case atStart => exact ⟨⟨0, _, _, 0, Nat.zero_le _, rfl, rfl, by omega, rfl, fun _ h => absurd h (by omega), W0.out, by show Below _ _ _; have := HB1.out; go_grown⟩, by show Below _ _ _; go_grown⟩
  case round =>
    obtain ⟨⟨k, g, cp, z, hk, rfl, rfl, hz, hZ, hF, hO, hb⟩, hb1⟩ := hrel
    clear W0 hmk1
    have hsz := hb.out.size
    have hsz1 := hb1.out.size
    have hgl := hO.out.lt g rfl
    have hcp := owns_cap hO.out
    by_cases hlt : k < n
    · obtain ⟨b, off, rfl, hbB, hc⟩ := HE.out (by omega)
      have cx := (hb.out.cell (p := ⟨b, off + k, none⟩) hbB).trans (hc k hlt)
      have k0 : (0 : Int) ≤ (k : Int) := by omega
      have k1 : (k : Int) < (n : Int) := by omega
      clear hc
      by_cases hx : 0 ≤ f k ∧ f k < m
      rotate_left
      · obtain ⟨rfl, rfl⟩ := hv.out.no (ringV_no1 hlt hx)
        have HB2 := Lib.hid hb.out
        by_cases hx0 : f k < 0
        · have d1 : decide (f k < 0) = true := decide_eq_true hx0
          clear hx hO hb hF hv
          go_wp2
          go_ret2
          exact ringRes_nil HB2.out.size (by simp) (by have := HB2.out; go_grown)
        · have d1 : decide (f k < 0) = false := decide_eq_false hx0
          have d2 : decide ((m : Int) ≤ f k) = true := decide_eq_true (by omega)
          clear hx hO hb hF hv
          go_wp2
          go_ret2
          exact ringRes_nil HB2.out.size (by simp) (by have := HB2.out; go_grown)
      have d1 : decide (f k < 0) = false := decide_eq_false (by omega)
      have d2 : decide ((m : Int) ≤ f k) = false := decide_eq_false (by omega)
      obtain ⟨q, hq⟩ : ∃ q : Nat, f k = (q : Int) := ⟨(f k).toNat, by omega⟩
      have hqm : q < m := by omega
      obtain ⟨b2, rfl, hb2, hst⟩ := HS.out (by omega)
      have cy := (hb1.out.cell (p := ⟨b2, q, none⟩) hb2).trans (hst q hqm)
      have hrk : rng D f (k + 1) = rng D f k ++ lst (D q).f (D q).n := by show _ ++ lst (D (f k).toNat).f (D (f k).toNat).n = _; rw [hq]; rfl
      have hcd := HP.out.2 q hqm
      obtain ⟨n1, f1, hDq⟩ : ∃ n1 f1, D q = ⟨n1, f1⟩ := ⟨_, _, rfl⟩
      rw [hDq] at cy hrk hcd
      have hn1 : 1 ≤ n1 ∧ n1 ≤ 5 := hcd.1.1
      have HG := Lib.hid hcd.1.2
      have HR := Lib.hid hrk
      have hF2 : Hid (∀ j, j < k + 1 → 0 ≤ f j ∧ f j < m) := fun j hj => by
        by_cases e : j = k
        · subst e; exact hx
        · exact hF.out j (by omega)
      rw [hq] at cx d1 d2
      have q0 : (0 : Int) ≤ (q : Int) := by omega
      have q1 : (q : Int) < (m : Int) := by omega
      have HX := Lib.hid hx
      clear hst hrk hcd hDq hF hx
      go_wp2_with fail
      refine (iList n1 f1 _ HG.out (by omega)).mono ?_
      rintro e w2 ⟨rfl, ho, hs2, hbl⟩
      have HB2 := Lib.hid (bl hb.out (by first | exact Nat.le_refl _ | omega) hbl)
      have HB3 := Lib.hid (bl hb1.out (by first | exact Nat.le_refl _ | omega) hbl)
      have hO2 := Lib.hid (owns_call hO.out hbl)
      obtain ⟨off3, e3, hb3, hf3, hc3⟩ := ho (by omega)
      simp only [Option.some.injEq, Addr.mk.injEq, true_and, and_true] at e3
      subst e3
      have hnews := Lib.hid (cellsN_of (n := n1) (f := f1) hc3)
      obtain ⟨ji0, jz0, jz1, jz2⟩ := J.out
      clear hO hb hb1 hbl hc3 hf3 cx cy ho
      go_wp2_with (at_builtin; refine wpList_append_lies _ rfl _ _ _ rfl w1.heap.size 3 i0 (.int .i64 0) 1 8 Try.underlying23 ji0 jz0 jz1 jz2 rfl (by omega) (.slice (some ⟨g, 0, none⟩) z cp) z _ rfl hO2.out ⟨wr.heap.size, 0, none⟩ n1 n1 (cellsN n1 f1) rfl ?d0 hnews.out cellsN_one ?d2 ?d3 ?d4 ?d5 w2.heap.size rfl ?_)
      case d0 => rw [cellsN_len]; omega
      case d2 => omega
      case d3 => unfold maxLen; omega
      case d4 => omega
      case d5 => omega
      intro g6 k6 w6 hown6 hg6 hat6 hlt6
      have hg6 : w2.grownBy w6 (some g) := hg6
      have hsz6 := hg6.size
      have hs02 := HB2.out.size
      have hb6 : Hid (Below w.heap.size w w6) := HB2.out.grown hg6 (by have := HB2.out.size; omega) (fun k e => by injection e with e; omega)
      have hb7 : Hid (Below w1.heap.size w1 w6) := HB3.out.grown hg6 (by have := HB3.out.size; omega) (fun k e => by injection e with e; omega)
      rw [ints_app] at hown6
      have HO6 : Hid (w6.ownsRow w1.heap.size 3 1 (.slice (some ⟨g6, 0, none⟩) (z + n1) k6) (z + n1) (ints (rng D f (k + 1)))) := by rw [HR.out]; exact hown6
      have hZ2 : Hid ((rng D f (k + 1)).length = z + n1) := by show _ = _; rw [HR.out, List.length_append, lst_len, hZ.out]
      clear hown6 hg6 hO2 HB2 HB3 ji0 jz0 jz1 jz2 hat6 hlt6 hnews
      by_cases hl : z + n1 ≤ 20
      · have d3 : decide ((20 : Int) < ((z + n1 : Nat) : Int)) = false := decide_eq_false (by omega)
        have d4 : decide ((20 : Int) < (z : Int) + (n1 : Int)) = false := decide_eq_false (by omega)
        have d5 : decide (20 < z + n1) = false := decide_eq_false (by omega)
        go_wp2_with fail
        go_roundw
        case rel => exact ⟨⟨k + 1, g6, k6, z + n1, by omega, by go_num, rfl, hl, hZ2, hF2, HO6, hb6⟩, hb7⟩
        case measure => simp [intOf]; omega
      · have d3 : decide ((20 : Int) < ((z + n1 : Nat) : Int)) = true := decide_eq_true (by omega)
        have d4 : decide ((20 : Int) < (z : Int) + (n1 : Int)) = true := decide_eq_true (by omega)
        have d5 : decide (20 < z + n1) = true := decide_eq_true (by omega)
        obtain ⟨rfl, rfl⟩ := hv.out.no (ringV_no2 (k := k + 1) (by omega) (by rw [hZ2.out]; omega))
        clear HO6 hv
        go_wp2
        go_ret2
        have h9 := hb6.out
        have h8 := h9.size
        exact ringRes_nil h8 (by simp) (by go_grown)
    · obtain rfl : k = n := by omega
      obtain ⟨rfl, rfl⟩ := hv.out.yes ⟨HP.out, hF.out, by rw [hZ.out]; exact hz⟩
      have HO := Lib.hid hO.out
      have HB := Lib.hid hb.out
      clear hO hb hb1 hv
      go_wp2
      go_ret2
      exact ringRes_of hZ.out HO.out sz1 HB.out
set_option maxRecDepth 100000 in
set_option maxHeartbeats 4000000 in
theorem sRing (A : Option Addr) (m c : Nat) (D : Nat → LD) (E : Option Addr) (n d : Nat) (f : Nat → Int) (w : World) (h : SsRn w w.heap.size A m D) (hm : m ≤ 1048576) (hD : ∀ i, i < m → (D i).n ≤ 1048576)
    (hE : Rn w w.heap.size E n f) (hn : n ≤ 9223372036854775807) (ok : Bool) (xs : List Int) (hv : Hid (RingV D m n f ok xs)) :
    Calls Try.prog 13 #[.slice A m c, .slice E n d] w (RingRes w ok xs) := by
  obtain ⟨i0, ji0, jz0, jz1, jz2⟩ := info_parts intInfo
  have J := Lib.hid (And.intro ji0 (And.intro jz0 (And.intro jz1 jz2)))
  have HE := Lib.hid hE
  have H := Lib.hid h
  have HS0 := Lib.hid (h.top (.cells #[] 3))
  have W0 := Lib.hid (World.ownsRow_made (base := w.heap.size) (size := 1) (e := 3) w #[] 0 (Nat.le_refl _) (by unfold maxLen; omega) (by simp))
  clear ji0 jz0 jz1 jz2 h hE
  by_cases hp : bookV D m
  rotate_left
  · obtain ⟨rfl, rfl⟩ := hv.out.no (fun x => hp x.1)
    have HB := Lib.hid (fun cA => sBook A m cA D _ HS0.out hm hD false ⟨fun x => (by cases x), fun x => absurd x hp⟩)
    clear hp hD
    go_enter Try.func13, Try.ntmps13
    go_wp2_with fail
    refine (HB.out _).mono ?_
    rintro e w1 ⟨rfl, hb⟩
    have sz1 := hb.size
    simp at sz1
    have HB1 : Hid (Below w.heap.size w w1) := bl (by go_grown) (by first | exact Nat.le_refl _ | (simp; done) | (simp; omega)) hb
    clear hb
    go_wp2
    go_ret2
    exact ringRes_nil (Nat.le_refl _) (by omega) HB1.out
  have HB := Lib.hid (fun cA => sBook A m cA D _ HS0.out hm hD true ⟨fun _ => hp, fun _ => rfl⟩)
  have HP := Lib.hid hp
  clear hp hD
  go_enter Try.func13, Try.ntmps13
  go_wp2_with fail
  refine (HB.out _).mono ?_
  rintro e w1 ⟨rfl, hb⟩
  have sz1 := hb.size
  simp at sz1
  have HB1 : Hid (Below w.heap.size w w1) := bl (by go_grown) (by first | exact Nat.le_refl _ | (simp; done) | (simp; omega)) hb
  have W1 := Lib.hid (owns_call W0.out hb)
  clear hb
  go_wp2_with fail
  go_loopw [6, 7] (fun v i wr => RingR w w.heap.size 3 D m n f v i wr) (fun _ i _ => (n - intOf i).toNat)
  case atStart => exact ⟨0, _, _, 0, Nat.zero_le _, rfl, rfl, by omega, rfl, fun _ h => absurd h (by omega), W1.out, HB1.out⟩
  case round =>
    obtain ⟨k, g, cp, z, hk, rfl, rfl, hz, hZ, hF, hO, hb⟩ := hrel
    clear W0 W1 HB1
    have hsz := hb.out.size
    have hgl := hO.out.lt g rfl
    have hcp := owns_cap hO.out
    by_cases hlt : k < n
    · obtain ⟨b, off, rfl, hbB, hc⟩ := HE.out (by omega)
      have cx := (hb.out.cell (p := ⟨b, off + k, none⟩) hbB).trans (hc k hlt)
      have k0 : (0 : Int) ≤ (k : Int) := by omega
      have k1 : (k : Int) < (n : Int) := by omega
      clear hc
      by_cases hx : 0 ≤ f k ∧ f k ≤ (m : Int) - 1
      rotate_left
      · obtain ⟨rfl, rfl⟩ := hv.out.no (ringV_no1 hlt (by omega))
        have HB2 := Lib.hid hb.out
        have HI := Lib.hid (sIn_no (f k) 0 ((m : Int) - 1) wr hx)
        clear hx hO hb hF hv
        go_wp2_with (go_at_call 53; refine HI.out.mono ?_; rintro e w' ⟨rfl, rfl⟩)
        go_ret2
        exact ringRes_nil HB2.out.size (by simp) (by have := HB2.out; go_grown)
      have HI := Lib.hid (sIn_yes (f k) 0 ((m : Int) - 1) wr hx)
      obtain ⟨q, hq⟩ : ∃ q : Nat, f k = (q : Int) := ⟨(f k).toNat, by omega⟩
      have hqm : q < m := by omega
      obtain ⟨b2, off2, a1, c1, n1, f1, rfl, hbB2, hDq, y0, r1⟩ := H.out.at_ hqm
      have cy := (hb.out.cell (p := ⟨b2, off2 + q, none⟩) hbB2).trans y0
      have r1 := r1.below hb.out
      have hrk : rng D f (k + 1) = rng D f k ++ lst (D q).f (D q).n := by show _ ++ lst (D (f k).toNat).f (D (f k).toNat).n = _; rw [hq]; rfl
      have hcd := HP.out.2 q hqm
      rw [hDq] at hrk hcd
      have hn1 : 1 ≤ n1 ∧ n1 ≤ 5 := hcd.1.1
      have HR := Lib.hid hrk
      have hF2 : Hid (∀ j, j < k + 1 → 0 ≤ f j ∧ f j < m) := fun j hj => by
        by_cases e : j = k
        · subst e; omega
        · exact hF.out j (by omega)
      obtain ⟨b3, off3, rfl, hb3, hc3⟩ := r1 (by omega)
      have hnews := Lib.hid (cellsN_of (n := n1) (f := f1) hc3)
      rw [hq] at cx HI
      have q0 : (0 : Int) ≤ (q : Int) := by omega
      have q1 : (q : Int) < (m : Int) := by omega
      obtain ⟨ji0, jz0, jz1, jz2⟩ := J.out
      have hO2 := Lib.hid hO.out
      have HB2 := Lib.hid hb.out
      clear hrk hcd hDq hF hx hc3 r1 y0 hO hb
      have hsz0 := hsz
      go_wp2_with (first | (go_at_call 53; refine HI.out.mono ?_; rintro e w' ⟨rfl, rfl⟩) | (at_builtin; refine wpList_append_lies _ rfl _ _ _ rfl w.heap.size 3 i0 (.int .i64 0) 1 8 Try.underlying23 ji0 jz0 jz1 jz2 rfl (by omega) (.slice (some ⟨g, 0, none⟩) z cp) z _ rfl hO2.out ⟨b3, off3, none⟩ n1 c1 (cellsN n1 f1) rfl ?d0 hnews.out cellsN_one ?d2 ?d3 ?d4 ?d5 _ rfl ?_))
      case d0 => rw [cellsN_len]; omega
      case d2 => omega
      case d3 => unfold maxLen; omega
      case d4 => omega
      case d5 => omega
      intro g6 k6 w6 hown6 hg6 hat6 hlt6
      have hg6 : wr.grownBy w6 (some g) := hg6
      have hsz6 := hg6.size
      have hb6 : Hid (Below w.heap.size w w6) := HB2.out.grown hg6 (by omega) (fun k e => by injection e with e; omega)
      rw [ints_app] at hown6
      have HO6 : Hid (w6.ownsRow w.heap.size 3 1 (.slice (some ⟨g6, 0, none⟩) (z + n1) k6) (z + n1) (ints (rng D f (k + 1)))) := by rw [HR.out]; exact hown6
      have hZ2 : Hid ((rng D f (k + 1)).length = z + n1) := by show _ = _; rw [HR.out, List.length_append, lst_len, hZ.out]
      clear hown6 hg6 hO2 HB2 ji0 jz0 jz1 jz2 hat6 hlt6 hnews
      by_cases hl : z + n1 ≤ 20
      · have d3 : decide ((20 : Int) < ((z + n1 : Nat) : Int)) = false := decide_eq_false (by omega)
        have d4 : decide ((20 : Int) < (z : Int) + (n1 : Int)) = false := decide_eq_false (by omega)
        have d5 : decide (20 < z + n1) = false := decide_eq_false (by omega)
        go_wp2_with fail
        go_roundw
        case rel => exact ⟨k + 1, g6, k6, z + n1, by omega, by go_num, rfl, hl, hZ2, hF2, HO6, hb6⟩
        case measure => simp [intOf]; omega
      · have d3 : decide ((20 : Int) < ((z + n1 : Nat) : Int)) = true := decide_eq_true (by omega)
        have d4 : decide ((20 : Int) < (z : Int) + (n1 : Int)) = true := decide_eq_true (by omega)
        have d5 : decide (20 < z + n1) = true := decide_eq_true (by omega)
        obtain ⟨rfl, rfl⟩ := hv.out.no (ringV_no2 (k := k + 1) (by omega) (by rw [hZ2.out]; omega))
        clear HO6 hv
        go_wp2
        go_ret2
        have h9 := hb6.out
        have h8 := h9.size
        exact ringRes_nil h8 (by simp) (by go_grown)
    · obtain rfl : k = n := by omega
      obtain ⟨rfl, rfl⟩ := hv.out.yes ⟨HP.out, hF.out, by rw [hZ.out]; exact hz⟩
      have HO := Lib.hid hO.out
      have HB := Lib.hid hb.out
      clear hO hb hv
      go_wp2
      go_ret2
      exact ringRes_of hZ.out HO.out (Nat.le_refl _) HB.out
end Go.Proofs.Ytanfhgliilkhjaa
