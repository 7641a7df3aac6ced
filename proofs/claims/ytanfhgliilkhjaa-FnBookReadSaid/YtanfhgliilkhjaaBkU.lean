/-
  Contract of the program's BookRead.
-/
import Derived.Test.YtanfhgliilkhjaaBkT
namespace Go.Proofs.Ytanfhgliilkhjaa
open Go.RowKit Go.Deep
set_option linter.unusedVariables false

/-- The indexes as numbers. -/
def natI (l : List Nat) : List Int := l.map fun (i : Nat) => (i : Int)
theorem natI_len (l : List Nat) : (natI l).length = l.length := by simp [natI]
def readV (E : LD) (D : Nat → LD) (m : Nat) : Prop := ringB E D m ∧ few E D m E.n < 1000
def ReadV (E : LD) (D : Nat → LD) (m : Nat) (ok : Bool) (xs : List Int) : Prop := (readV E D m ∧ ok = true ∧ xs = natI (rdg E D m E.n)) ∨ (¬ readV E D m ∧ ok = false ∧ xs = [])
theorem ReadV.no {E : LD} {D : Nat → LD} {m : Nat} {ok : Bool} {xs : List Int} (h : ReadV E D m ok xs) (hn : ¬ readV E D m) : ok = false ∧ xs = [] := by
  rcases h with h | h
  · exact absurd h.1 hn
  · exact h.2
theorem ReadV.yes {E : LD} {D : Nat → LD} {m : Nat} {ok : Bool} {xs : List Int} (h : ReadV E D m ok xs) (hn : readV E D m) : ok = true ∧ xs = natI (rdg E D m E.n) := by
  rcases h with h | h
  · exact h.2
  · exact absurd hn h.1
theorem chInfo : (Try.prog.info? 86).map (fun i => (i.zero, i.size, i.bytes)) = some (some (.agg #[.int .i64 0, .int .i64 0]), 2, 16) := by kernel_rfl
theorem made2 (w : World) (z : Value) (n : Nat) (T : TypeId) : (w.alloc (.cells (madeCells #[z, z] n) T)).rowIs w.heap.size T n (fun _ => z) :=
  ⟨_, Go.Deep.blk_alloc_new _ _, size_madeCells _ _, fun i hi => by
    have h2 : i % 2 = 0 ∨ i % 2 = 1 := by omega
    rcases h2 with h2 | h2 <;> simp [madeCells, hi, h2]⟩
/-- The choices: an index and a number each. -/
def Best (w : World) (g T n : Nat) (I M : Nat → Int) : Prop := w.rowIs g T (n * 2) (fun j => if j % 2 = 0 then .int .i64 (I (j / 2)) else .int .i64 (M (j / 2)))
theorem Best.at_ {w : World} {g T n : Nat} {I M : Nat → Int} (h : Best w g T n I M) {p : Nat} (hp : p < n) : w.cell? ⟨g, p * 2, none⟩ = some (.int .i64 (I p)) ∧ w.cell? ⟨g, p * 2 + 1, none⟩ = some (.int .i64 (M p)) := by
  have h0 := h.cell (show p * 2 < n * 2 by omega)
  have h1 := h.cell (show p * 2 + 1 < n * 2 by omega)
  rw [if_pos (by omega), show p * 2 / 2 = p by omega] at h0
  rw [if_neg (by omega), show (p * 2 + 1) / 2 = p by omega] at h1
  exact ⟨h0, h1⟩
theorem Best.congr {w : World} {g T n : Nat} {I M I' M' : Nat → Int} (h : Best w g T n I M) (h1 : ∀ p, p < n → I p = I' p) (h2 : ∀ p, p < n → M p = M' p) : Best w g T n I' M' :=
  World.rowIs.congr h fun j hj => by
    rw [h1 (j / 2) (by omega), h2 (j / 2) (by omega)]
theorem Best.put {w : World} {g T n : Nat} {I M : Nat → Int} (h : Best w g T n I M) {p : Nat} (i m : Int) : Best ((w.setCell ⟨g, p * 2, none⟩ (.int .i64 i)).setCell ⟨g, p * 2 + 1, none⟩ (.int .i64 m)) g T n (fun j => if j = p then i else I j) (fun j => if j = p then m else M j) := by
  have := (h.set (i := p * 2) (v := .int .i64 i)).set (i := p * 2 + 1) (v := .int .i64 m)
  refine World.rowIs.congr this fun j hj => ?_
  by_cases e1 : j = p * 2 + 1
  · subst e1
    rw [if_pos rfl, if_neg (by omega), show (p * 2 + 1) / 2 = p by omega]; simp only [if_true]
  · rw [if_neg e1]
    by_cases e0 : j = p * 2
    · subst e0
      rw [if_pos rfl, if_pos (by omega), show p * 2 / 2 = p by omega]; simp only [if_true]
    · rw [if_neg e0]
      have : j / 2 ≠ p := by omega
      simp only [if_neg this]
theorem Best.of {w w' : World} {g T n : Nat} {I M : Nat → Int} (h : Best w g T n I M) (e : w'.heap[g]? = w.heap[g]?) : Best w' g T n I M := by
  obtain ⟨c, hc, hr⟩ := h
  exact ⟨c, e.trans hc, hr⟩
theorem Best.lt {w : World} {g T n : Nat} {I M : Nat → Int} (h : Best w g T n I M) : g < w.heap.size := World.rowIs.lt h
/-- What stands at a place in the end. -/
def vI (E : LD) (D : Nat → LD) (m p : Nat) : Int := if p = E.n then 0 else if few E D m (E.n - p) < 1000 then (ix E D m (E.n - p) : Int) else -1
def vM (E : LD) (D : Nat → LD) (m p : Nat) : Int := if p = E.n then 0 else if few E D m (E.n - p) < 1000 then (few E D m (E.n - p) : Int) else 0
/-- What stands at place E.n - k behind i codes. -/
def cI (E : LD) (D : Nat → LD) (k : Nat) (fw : Nat → Nat) (i : Nat) : Int := if mnF E D k fw i < 1000 then (ixF E D k fw i : Int) else -1
def cM (E : LD) (D : Nat → LD) (k : Nat) (fw : Nat → Nat) (i : Nat) : Int := if mnF E D k fw i < 1000 then (mnF E D k fw i : Int) else 0
theorem cI_all {E : LD} {D : Nat → LD} {m k : Nat} (hk : 0 < k) (hn : k ≤ E.n) : cI E D k (few E D m) m = vI E D m (E.n - k) := by
  unfold cI vI ix
  rw [if_neg (show ¬ E.n - k = E.n by omega), show E.n - (E.n - k) = k by omega, few_pos hk]
theorem cM_all {E : LD} {D : Nat → LD} {m k : Nat} (hk : 0 < k) (hn : k ≤ E.n) : cM E D k (few E D m) m = vM E D m (E.n - k) := by
  unfold cM vM
  rw [if_neg (show ¬ E.n - k = E.n by omega), show E.n - (E.n - k) = k by omega, few_pos hk]
/-- A round: nothing turns where the code does not stand or leads nowhere or to no fewer. -/
theorem c_same {E : LD} {D : Nat → LD} {k i : Nat} {fw : Nat → Nat} (h : ¬ stAt E (E.n - k) (D i) ∨ mnF E D k fw i ≤ fw (k - max 1 (D i).n) + 1) : cI E D k fw (i + 1) = cI E D k fw i ∧ cM E D k fw (i + 1) = cM E D k fw i := by
  have hm : mnF E D k fw (i + 1) = mnF E D k fw i := by
    rw [mnF_succ]
    by_cases hs : stAt E (E.n - k) (D i)
    · rw [if_pos hs]
      rcases h with h | h
      · exact absurd hs h
      · omega
    · rw [if_neg hs]
  have hx : ixF E D k fw (i + 1) = ixF E D k fw i := by
    show (if _ then _ else _) = _
    rw [if_neg]
    rintro ⟨h1, h2⟩
    rcases h with h | h
    · exact h h1
    · omega
  unfold cI cM
  rw [hm, hx]
  exact ⟨rfl, rfl⟩
theorem c_new {E : LD} {D : Nat → LD} {k i : Nat} {fw : Nat → Nat} (hs : stAt E (E.n - k) (D i)) (h : fw (k - max 1 (D i).n) + 1 < mnF E D k fw i) : cI E D k fw (i + 1) = (i : Int) ∧ cM E D k fw (i + 1) = (fw (k - max 1 (D i).n) : Int) + 1 := by
  have hm : mnF E D k fw (i + 1) = fw (k - max 1 (D i).n) + 1 := by rw [mnF_succ, if_pos hs]; omega
  have hx : ixF E D k fw (i + 1) = i := by
    show (if _ then _ else _) = _
    rw [if_pos ⟨hs, h⟩]
  have hl := mnF_le E D k fw i
  unfold cI cM
  rw [hm, hx, if_pos (by omega), if_pos (by omega)]
  exact ⟨rfl, by omega⟩
/-- The choices while place q is the last one done. -/
def gI (E : LD) (D : Nat → LD) (m q : Nat) (p : Nat) : Int := if q ≤ p then vI E D m p else 0
def gM (E : LD) (D : Nat → LD) (m q : Nat) (p : Nat) : Int := if q ≤ p then vM E D m p else 0
theorem cI_zero (E : LD) (D : Nat → LD) (k : Nat) (fw : Nat → Nat) : cI E D k fw 0 = -1 := if_neg (show ¬ mnF E D k fw 0 < 1000 from Nat.lt_irrefl 1000)
theorem cM_zero (E : LD) (D : Nat → LD) (k : Nat) (fw : Nat → Nat) : cM E D k fw 0 = 0 := if_neg (show ¬ mnF E D k fw 0 < 1000 from Nat.lt_irrefl 1000)
/-- While place p is being done: j codes are done. -/
def InR (E : LD) (D : Nat → LD) (m K p g T j : Nat) (w : World) : Prop := Best w g T (E.n + 1) (fun x => if x = p then cI E D K (few E D m) j else gI E D m (p + 1) x) (fun x => if x = p then cM E D K (few E D m) j else gM E D m (p + 1) x)
theorem InR.at_ {E : LD} {D : Nat → LD} {m K p g T j : Nat} {w : World} (h : InR E D m K p g T j w) (hp : p < E.n + 1) : w.cell? ⟨g, p * 2, none⟩ = some (.int .i64 (cI E D K (few E D m) j)) ∧ w.cell? ⟨g, p * 2 + 1, none⟩ = some (.int .i64 (cM E D K (few E D m) j)) := by
  have := Best.at_ h hp
  simpa using this
theorem InR.behind {E : LD} {D : Nat → LD} {m K p g T j q : Nat} {w : World} (h : InR E D m K p g T j w) (hq : p < q) (hn : q ≤ E.n) : w.cell? ⟨g, q * 2, none⟩ = some (.int .i64 (vI E D m q)) ∧ w.cell? ⟨g, q * 2 + 1, none⟩ = some (.int .i64 (vM E D m q)) := by
  have := Best.at_ h (show q < E.n + 1 by omega)
  rw [if_neg (by omega), if_neg (by omega)] at this
  unfold gI gM at this
  rw [if_pos (by omega), if_pos (by omega)] at this
  exact this
theorem InR.same {E : LD} {D : Nat → LD} {m K p g T j : Nat} {w : World} (h : InR E D m K p g T j w) (hs : ¬ stAt E (E.n - K) (D j) ∨ mnF E D K (few E D m) j ≤ few E D m (K - max 1 (D j).n) + 1) : InR E D m K p g T (j + 1) w := by
  obtain ⟨h1, h2⟩ := c_same hs
  unfold InR
  rw [h1, h2]
  exact h
theorem InR.new {E : LD} {D : Nat → LD} {m K p g T j : Nat} {w : World} (h : InR E D m K p g T j w) (hs : stAt E (E.n - K) (D j)) (hl : few E D m (K - max 1 (D j).n) + 1 < mnF E D K (few E D m) j) : InR E D m K p g T (j + 1) ((w.setCell ⟨g, p * 2, none⟩ (.int .i64 (j : Int))).setCell ⟨g, p * 2 + 1, none⟩ (.int .i64 ((few E D m (K - max 1 (D j).n) : Int) + 1))) := by
  obtain ⟨h1, h2⟩ := c_new hs hl
  unfold InR
  rw [h1, h2]
  refine (Best.put h (p := p) _ _).congr (fun x _ => ?_) (fun x _ => ?_)
  · by_cases e : x = p
    · rw [if_pos e, if_pos e]
    · rw [if_neg e, if_neg e, if_neg e]
  · by_cases e : x = p
    · rw [if_pos e, if_pos e]
    · rw [if_neg e, if_neg e, if_neg e]
theorem InR.done {E : LD} {D : Nat → LD} {m K p g T : Nat} {w : World} (h : InR E D m K p g T m w) (hK : E.n = p + K) (h1 : 1 ≤ K) : Best w g T (E.n + 1) (gI E D m p) (gM E D m p) := by
  refine Best.congr h (fun x _ => ?_) (fun x _ => ?_)
  · by_cases e : x = p
    · rw [if_pos e, cI_all (by omega) (by omega), show E.n - K = p by omega]
      unfold gI; rw [if_pos (by omega), e]
    · rw [if_neg e]; unfold gI
      by_cases e2 : p + 1 ≤ x
      · rw [if_pos e2, if_pos (by omega)]
      · rw [if_neg e2, if_neg (by omega)]
  · by_cases e : x = p
    · rw [if_pos e, cM_all (by omega) (by omega), show E.n - K = p by omega]
      unfold gM; rw [if_pos (by omega), e]
    · rw [if_neg e]; unfold gM
      by_cases e2 : p + 1 ≤ x
      · rw [if_pos e2, if_pos (by omega)]
      · rw [if_neg e2, if_neg (by omega)]
/-- What stands behind a code. -/
theorem v_cases {E : LD} {D : Nat → LD} {m K p n1 : Nat} (hK : E.n = p + K) (h1 : 1 ≤ n1) (h2 : n1 ≤ K) (hn : E.n ≤ 20) : (p + n1 < E.n ∧ vI E D m (p + n1) = -1 ∧ 1000 ≤ few E D m (K - n1)) ∨ (0 ≤ vI E D m (p + n1) ∧ vM E D m (p + n1) = (few E D m (K - n1) : Int) ∧ few E D m (K - n1) ≤ 20) := by
  unfold vI vM
  have e : E.n - (p + n1) = K - n1 := by omega
  by_cases h : p + n1 = E.n
  · right
    rw [if_pos h, if_pos h, show K - n1 = 0 by omega, few_zero]
    omega
  · rw [if_neg h, if_neg h, e]
    by_cases hf : few E D m (K - n1) < 1000
    · right
      rw [if_pos hf, if_pos hf]
      have := few_k _ hf
      omega
    · left
      rw [if_neg hf]
      omega
theorem c_cases (E : LD) (D : Nat → LD) (k : Nat) (fw : Nat → Nat) (i : Nat) : (cI E D k fw i = -1 ∧ mnF E D k fw i = 1000) ∨ (0 ≤ cI E D k fw i ∧ cM E D k fw i = (mnF E D k fw i : Int) ∧ mnF E D k fw i < 1000) := by
  have := mnF_le E D k fw i
  unfold cI cM
  by_cases h : mnF E D k fw i < 1000
  · right; rw [if_pos h, if_pos h]; omega
  · left; rw [if_neg h]; omega
theorem InR.of {E : LD} {D : Nat → LD} {m K p g T j : Nat} {w w' : World} (h : InR E D m K p g T j w) (e : w'.heap[g]? = w.heap[g]?) : InR E D m K p g T j w' := Best.of h e
set_option maxRecDepth 100000 in
set_option maxHeartbeats 4000000 in
theorem iRead (A : Option Addr) (m c : Nat) (D : Nat → LD) (R : Option Addr) (d : Nat) (E : LD) (w : World) (h : SsRn w w.heap.size A m D) (hm : m ≤ 1048576) (hD : ∀ i, i < m → (D i).n ≤ 1048576)
    (hR : Rn w w.heap.size R E.n E.f) (hn : E.n ≤ 1048576) (ok : Bool) (xs : List Int) (hv : Hid (ReadV E D m ok xs)) :
    Calls Try.prog 29 #[.slice A m c, .slice R E.n d] w (RingRes w ok xs) := by
  have HB := Lib.hid (iBook A m c D w h hm hD)
  have HR := Lib.hid hR
  clear h hD hR
  go_enter Try.func29, Try.ntmps29
  go_wp2_with fail
  refine HB.out.mono ?_
  rintro e w1 ⟨⟨hp, A1, c1, rfl, hS⟩ | ⟨hp, rfl⟩, hb⟩
  rotate_left
  · obtain ⟨rfl, rfl⟩ := hv.out.no (fun x => hp x.1.1)
    have HB1 := Lib.hid hb
    have HR1 := Lib.hid (HR.out.topb hb)
    clear hp hb HR
    go_wp2_with fail
    refine (iBeats R E.n d E.f 20 _ HR1.out hn (by omega)).mono ?_
    rintro e w2 ⟨⟨hp2, rfl⟩ | ⟨hp2, rfl⟩, hb2⟩
    all_goals
      have HB2 := Lib.hid (bl HB1.out (Nat.le_refl _) hb2)
      clear hp2 hb2
      go_wp2
      go_ret2
      have h9 := HB2.out
      have h8 := h9.size
      exact ringRes_nil h8 (by simp) (by go_grown)
  have HP := Lib.hid hp
  have HS := Lib.hid hS
  have HB1 := Lib.hid hb
  have HR1 := Lib.hid (HR.out.topb hb)
  clear hp hb HR hS
  go_wp2_with fail
  refine (iBeats R E.n d E.f 20 _ HR1.out hn (by omega)).mono ?_
  rintro e w2 ⟨⟨hp2, rfl⟩ | ⟨hp2, rfl⟩, hb2⟩
  rotate_left
  · obtain ⟨rfl, rfl⟩ := hv.out.no (fun x => hp2 x.1.2)
    have HB2 := Lib.hid (bl HB1.out (Nat.le_refl _) hb2)
    clear hp2 hb2
    go_wp2
    go_ret2
    have h9 := HB2.out
    have h8 := h9.size
    exact ringRes_nil h8 (by simp) (by go_grown)
  have HP2 := Lib.hid hp2
  have HB2 := Lib.hid (bl HB1.out (Nat.le_refl _) hb2)
  have HS2 := Lib.hid ((HS.out.below hb2).up hb2.size)
  have sz2 := HB2.out.size
  have hn20 : E.n ≤ 20 := hp2.1
  have hm10 : m ≤ 10 := HP.out.1
  obtain ⟨i0, ji0, jz0, jz1, jz2⟩ := info_parts chInfo
  obtain ⟨i1, ki0, kz0, kz1, kz2⟩ := info_parts intInfo
  have J := Lib.hid (And.intro ki0 (And.intro kz0 (And.intro kz1 kz2)))
  have htn : ((E.n : Int) + 1).toNat = E.n + 1 := by omega
  have hzn := txt_size E.n E.f
  have hmk := run_make (P := Try.prog) w2 84 86 i0 (.agg #[.int .i64 0, .int .i64 0]) Try.underlying84 ji0 jz0 .i64 .i64 ((E.n : Int) + 1) ((E.n : Int) + 1) (by omega) (by omega) (by rw [jz2]; omega) (by omega)
  rw [htn, jz1] at hmk
  clear hp2 hb2 HS ji0 jz0 jz1 jz2 ki0 kz0 kz1 kz2 HB HR1 HB1
  have HP3 := Lib.hid HP2.out.2
  obtain ⟨g, hg⟩ : ∃ g, w2.heap.size = g := ⟨_, rfl⟩
  have B0 : Hid (Best (w2.alloc (.cells (madeCells (Value.agg #[.int .i64 0, .int .i64 0]).cells ((E.n + 1) * 2)) 86)) g 86 (E.n + 1) (gI E D m E.n) (gM E D m E.n)) := by
    subst hg
    refine World.rowIs.congr (made2 w2 (.int .i64 0) ((E.n + 1) * 2) 86) fun j hj => ?_
    have e1 : gI E D m E.n (j / 2) = 0 := by
      unfold gI vI
      by_cases h : E.n ≤ j / 2
      · rw [if_pos h, if_pos (by omega)]
      · rw [if_neg h]
    have e2 : gM E D m E.n (j / 2) = 0 := by
      unfold gM vM
      by_cases h : E.n ≤ j / 2
      · rw [if_pos h, if_pos (by omega)]
      · rw [if_neg h]
    rw [e1, e2, ite_self]
  have G0 := Lib.hid hg
  go_wp2_with fail
  go_loopw [11] (fun i wr => ∃ p : Nat, p ≤ E.n ∧ i = .int .i64 ((p : Int) - 1) ∧ Hid (Best wr g 86 (E.n + 1) (gI E D m p) (gM E D m p)) ∧ Hid (Below w2.heap.size w2 wr)) (fun i _ => (intOf i + 1).toNat)
  case atStart => exact ⟨E.n, Nat.le_refl _, by go_num, B0.out, by show Below _ _ _; go_grown⟩
  case round =>
    obtain ⟨p, hp, rfl, hB, hb⟩ := hrel
    clear B0 hmk
    cases p with
    | succ p =>
      have hpp : ((p + 1 : Nat) : Int) - 1 = (p : Int) := by omega
      obtain ⟨K, hK⟩ : ∃ K, E.n = p + K := ⟨E.n - p, by omega⟩
      have hK1 : 1 ≤ K := by omega
      have hKa : p + K ≤ E.n := by omega
      have hKb : E.n ≤ p + K := by omega
      have HK := Lib.hid hK
      clear hK
      have hgl := hB.out.lt
      have hsz := hb.out.size
      obtain ⟨x0, x1⟩ := hB.out.at_ (show p < E.n + 1 by omega)
      have hfz : ∀ o, wr.frozen? ⟨g, o, none⟩ = false := fun o => World.rowIs.frozen hB.out o
      have p0 : (0 : Int) ≤ (p : Int) := by omega
      have p1 : (p : Int) < ((E.n + 1 : Nat) : Int) := by omega
      have p2 : (p : Int) < (E.n : Int) + 1 := by omega
      have BP : Hid (InR E D m K p g 86 0 ((wr.setCell ⟨g, p * 2, none⟩ (.int .i64 (-1))).setCell ⟨g, p * 2 + 1, none⟩ (.int .i64 0))) := by
        have := hB.out.put (p := p) (-1) 0
        unfold Hid InR
        rw [cI_zero, cM_zero]
        exact this
      rw [hpp]
      have HBW := Lib.hid hb.out
      clear hB hb
      go_wp2_with fail
      go_loopw [52] (fun i wq => ∃ j : Nat, j ≤ m ∧ i = .int .i64 j ∧ Hid (InR E D m K p g 86 j wq) ∧ Hid (Below w2.heap.size w2 wq)) (fun i _ => (m - intOf i).toNat)
      case atStart => exact ⟨0, Nat.zero_le _, rfl, BP.out, by show Below _ _ _; have := HBW.out; go_grown⟩
      case round =>
        clear BP HBW x0 x1 hfz hgl hsz
        obtain ⟨j, hj, rfl, hB, hb⟩ := hrel
        have hgl := Best.lt hB.out
        have hsz := hb.out.size
        by_cases hlt : j < m
        · have HSw := Lib.hid (HS2.out.below hb.out)
          obtain ⟨b2, rfl, hb2, hst⟩ := HSw.out (by omega)
          have cy := hst j hlt
          have hcd := HP.out.2 j hlt
          have hstr := stAt_rst (e := E) (d := D j) (k := K) (by omega)
          have hnew := fun (W : World) (H : InR E D m K p g 86 j W) => H.new (j := j)
          have hsame := fun (W : World) (H : InR E D m K p g 86 j W) => H.same (j := j)
          obtain ⟨n1, f1, hDq⟩ : ∃ n1 f1, D j = ⟨n1, f1⟩ := ⟨_, _, rfl⟩
          rw [hDq] at cy hstr hnew hsame
          have hcd := hcd.1
          rw [hDq] at hcd
          have hn1 : 1 ≤ n1 ∧ n1 ≤ 5 := hcd.1
          have hmx : max 1 n1 = n1 := by omega
          simp only [hmx] at hnew hsame
          have HG := Lib.hid hcd.2
          have hGr := Lib.hid (grpV_rst HP3.out (k := K) (by omega))
          have hex : (txt E.n E.f).extract p E.n = txt K (rst E K) := by
            rw [txt_back E.f (by omega), show E.n - p = K by omega]
            congr 1
            funext i
            show E.f (p + i) = E.f (E.n - K + i)
            rw [show E.n - K = p by omega]
          have j0 : (0 : Int) ≤ (j : Int) := by omega
          have j1 : (j : Int) < (m : Int) := by omega
          have NEW := Lib.hid hnew
          have SAME := Lib.hid hsame
          have DQ := Lib.hid hDq
          clear hcd hDq hnew hsame hst
          by_cases hs : n1 ≤ K ∧ ∀ i, i < n1 → rst E K i = f1 i
          rotate_left
          · have HST := Lib.hid (fun W => iStands ⟨n1, f1⟩ K (rst E K) W HG.out hGr.out (by simp only []; omega) (by omega) false ⟨fun x => (by cases x), fun x => absurd x hs⟩)
            have HN := Lib.hid (SAME.out _ hB.out (.inl fun x => hs (hstr.1 x)))
            clear hs hstr
            go_wp2_with fail
            refine (HST.out _).mono ?_
            rintro e w1 ⟨rfl, rfl⟩
            go_wp2
            go_roundw
            case rel => exact ⟨j + 1, by omega, by go_num, HN.out, hb.out⟩
            case measure => simp [intOf]; omega
          have HST := Lib.hid (fun W => iStands ⟨n1, f1⟩ K (rst E K) W HG.out hGr.out (by simp only []; omega) (by omega) true ⟨fun _ => hs, fun _ => rfl⟩)
          have HSA := Lib.hid (hstr.2 hs)
          have hnk := hs.1
          obtain ⟨y0, y1⟩ := hB.out.behind (q := p + n1) (by omega) (by omega)
          obtain ⟨z0, z1⟩ := hB.out.at_ (by omega)
          have hvc := v_cases (D := D) (m := m) (n1 := n1) HK.out (by omega) hnk hn20
          have hcc := c_cases E D K (few E D m) j
          obtain ⟨vi, hvi⟩ : ∃ vi, vI E D m (p + n1) = vi := ⟨_, rfl⟩
          obtain ⟨vm, hvm⟩ : ∃ vm, vM E D m (p + n1) = vm := ⟨_, rfl⟩
          obtain ⟨ci, hci⟩ : ∃ ci, cI E D K (few E D m) j = ci := ⟨_, rfl⟩
          obtain ⟨cm, hcm⟩ : ∃ cm, cM E D K (few E D m) j = cm := ⟨_, rfl⟩
          obtain ⟨F, hF⟩ : ∃ F, few E D m (K - n1) = F := ⟨_, rfl⟩
          obtain ⟨MN, hMN⟩ : ∃ MN, mnF E D K (few E D m) j = MN := ⟨_, rfl⟩
          rw [hvi] at y0 hvc
          rw [hvm] at y1 hvc
          rw [hci] at z0 hcc
          rw [hcm] at z1 hcc
          rw [hF] at hvc NEW SAME
          rw [hMN] at hcc NEW SAME
          clear hs hstr hvi hvm hci hcm hF hMN
          have hz1 := txt_size n1 f1
          have htn2 : ((p : Int) + (n1 : Int)).toNat = p + n1 := by omega
          have r0 : (0 : Int) ≤ (p : Int) + (n1 : Int) := by omega
          have r1 : (p : Int) + (n1 : Int) < (E.n : Int) + 1 := by omega
          have hfz : ∀ o, wr.frozen? ⟨g, o, none⟩ = false := fun o => World.rowIs.frozen hB.out o
          have BX := Lib.hid (hB.out.of (w' := wr.alloc (.cells #[.int .i64 vi, .int .i64 vm] 86)) (blk_alloc_lt _ _ _ hgl))
          have HBB : Hid (Below w2.heap.size w2 (wr.alloc (.cells #[.int .i64 vi, .int .i64 vm] 86))) := hb.out.alloc hsz _
          rcases hvc with ⟨a1, a2, a3⟩ | ⟨a1, a2, a3⟩
          · have d1 : decide (vi < 0) = true := decide_eq_true (by omega)
            have d2 : decide ((p : Int) + (n1 : Int) < (E.n : Int)) = true := decide_eq_true (by omega)
            have d3 : decide (p + n1 < E.n) = true := decide_eq_true (by omega)
            have HN := Lib.hid (SAME.out _ BX.out (.inr (by omega)))
            clear a1 a2 a3 hcc
            go_wp2_with fail
            refine (HST.out _).mono ?_
            rintro e w1 ⟨rfl, rfl⟩
            go_wp2
            go_roundw
            case rel => exact ⟨j + 1, by omega, by go_num, HN.out, HBB.out⟩
            case measure => simp [intOf]; omega
          have d1 : decide (vi < 0) = false := decide_eq_false (by omega)
          rcases hcc with ⟨b1, b2'⟩ | ⟨b1, b2', b3⟩
          · have d2 : decide (ci < 0) = true := decide_eq_true (by omega)
            subst a2
            have HN := Lib.hid (fun q : Nat => NEW.out ((wr.alloc (.cells #[.int .i64 vi, .int .i64 (F : Int)] 86)).drewN q) BX.out HSA.out (by omega))
            clear b1 b2'
            go_wp2_with fail
            refine (HST.out _).mono ?_
            rintro e w1 ⟨rfl, rfl⟩
            go_wp2_with fail
            go_quiet (fail)
            go_wp2_with fail
            go_roundw
            case rel => exact ⟨j + 1, by omega, by go_num, HN.out _, by show Below _ _ _; have := below_dn HBB.out nq; go_grown⟩
            case measure => simp [intOf]; omega
          · have d2 : decide (ci < 0) = false := decide_eq_false (by omega)
            subst a2 b2'
            by_cases hl : F + 1 < MN
            · have d3 : decide ((F : Int) + 1 < (MN : Int)) = true := decide_eq_true (by omega)
              have HN := Lib.hid (fun q : Nat => NEW.out ((wr.alloc (.cells #[.int .i64 vi, .int .i64 (F : Int)] 86)).drewN q) BX.out HSA.out hl)
              clear b1 hl
              go_wp2_with fail
              refine (HST.out _).mono ?_
              rintro e w1 ⟨rfl, rfl⟩
              go_wp2_with fail
              go_quiet (fail)
              go_wp2_with fail
              go_roundw
              case rel => exact ⟨j + 1, by omega, by go_num, HN.out _, by show Below _ _ _; have := below_dn HBB.out nq; go_grown⟩
              case measure => simp [intOf]; omega
            · have d3 : decide ((F : Int) + 1 < (MN : Int)) = false := decide_eq_false (by omega)
              have HN := Lib.hid (SAME.out _ BX.out (.inr (by omega)))
              clear b1 hl
              go_wp2_with fail
              refine (HST.out _).mono ?_
              rintro e w1 ⟨rfl, rfl⟩
              go_wp2_with fail
              go_quiet (fail)
              go_wp2_with fail
              go_roundw
              case rel => exact ⟨j + 1, by omega, by go_num, HN.out, below_dn HBB.out _⟩
              case measure => simp [intOf]; omega
        · obtain rfl : j = m := by omega
          have HN := Lib.hid (hB.out.done HK.out hK1)
          clear hB
          go_wp2
          go_roundw
          case rel => exact ⟨p, by omega, by go_num, HN.out, hb.out⟩
          case measure => first | (simp [intOf]; done) | (simp [intOf]; omega)
    | zero =>
      rename World => X
      have hp0 : ((0 : Nat) : Int) - 1 = -1 := by omega
      rw [hp0]
      have hgl := hB.out.lt
      have hsz := hb.out.size
      have hs02 := HB2.out.size
      obtain ⟨ki0, kz0, kz1, kz2⟩ := J.out
      have hmk2 := run_make (P := Try.prog) X 23 3 i1 (.int .i64 0) Try.underlying23 ki0 kz0 .i64 .i64 0 (E.n : Int) (by omega) (by omega) (by rw [kz2]; omega) (by omega)
      rw [kz1] at hmk2
      simp only [Int.toNat_natCast, Int.toNat_zero, Nat.mul_one] at hmk2
      have hbst := fun (q : Nat) (hq : q < E.n + 1) => (hB.out.at_ hq).1
      have BST := Lib.hid hbst
      have HSw := Lib.hid ((HS2.out.below hb.out).up hsz)
      have HW := Lib.hid (bl HB2.out (Nat.le_refl _) hb.out)
      have W0 := Lib.hid (World.ownsRow_made (base := X.heap.size) (size := 1) (e := 3) X (madeCells (Value.int .i64 0).cells E.n) E.n (Nat.le_refl _) (by unfold maxLen; omega) (by simp [size_madeCells]))
      clear hbst hB hb ki0 kz0 kz1 kz2
      have hzc : ((E.n : Int)).toNat = E.n := by omega
      go_wp2_with fail
      go_loopw [15, 16] (fun v i wx => ∃ (p K z g2 cp : Nat) (l : List Nat), p ≤ E.n ∧ Hid (E.n = p + K) ∧ i = .int .i64 p ∧ v = .slice (some ⟨g2, 0, none⟩) z cp ∧ z ≤ p ∧ Hid (l.length = z) ∧ Hid (few E D m E.n < 1000 → few E D m K < 1000 ∧ rdg E D m E.n = l ++ rdg E D m K) ∧ Hid (¬ few E D m E.n < 1000 → p = 0) ∧
        Hid (wx.ownsRow X.heap.size 3 1 (.slice (some ⟨g2, 0, none⟩) z cp) z (ints (natI l))) ∧ Hid (Below X.heap.size X wx)) (fun _ i _ => (E.n - intOf i).toNat)
      case atStart => exact ⟨0, E.n, 0, _, _, [], Nat.zero_le _, (by show _ = _; omega), rfl, rfl, Nat.le_refl _, rfl, fun h => ⟨h, rfl⟩, fun _ => rfl, W0.out, by show Below _ _ _; go_grown⟩
      case round =>
        clear W0 hmk2
        obtain ⟨p, K, z, g2, cp, l, hp, HK, rfl, rfl, hz, hL, hY, hN, hO, hb⟩ := hrel
        have hgl2 := hO.out.lt g2 rfl
        have hcp := owns_cap hO.out
        have hszx := hb.out.size
        have hKa : p + K ≤ E.n := by have : E.n = p + K := HK.out; omega
        have hKb : E.n ≤ p + K := by have : E.n = p + K := HK.out; omega
        by_cases hlt : p < E.n
        · have x0 := (hb.out.cell (p := ⟨g, p * 2, none⟩) hgl).trans (BST.out p (by omega))
          have p0 : (0 : Int) ≤ (p : Int) := by omega
          have p1 : (p : Int) < (E.n : Int) + 1 := by omega
          have hgi : gI E D m 0 p = vI E D m p := by unfold gI; rw [if_pos (by omega)]
          have hvi : vI E D m p = if few E D m K < 1000 then (ix E D m K : Int) else -1 := by unfold vI; rw [if_neg (by omega), show E.n - p = K by omega]
          rw [hgi, hvi] at x0
          clear hgi hvi
          by_cases hf : few E D m E.n < 1000
          · obtain ⟨hfk, hrd⟩ := hY.out hf
            rw [if_pos hfk] at x0
            obtain ⟨q1, q2, q3, _⟩ := ix_spec (by omega) hfk
            have hrp := rdg_pos (e := E) (D := D) (m := m) (k := K) (by omega)
            obtain ⟨q, hq⟩ : ∃ q, ix E D m K = q := ⟨_, rfl⟩
            rw [hq] at x0 q1 q2 q3 hrp
            have hcd := HP.out.2 q q1
            have HSx := Lib.hid (HSw.out.below hb.out)
            obtain ⟨b2, rfl, hb2, hst⟩ := HSx.out (by omega)
            have cy := hst q q1
            obtain ⟨n1, f1, hDq⟩ : ∃ n1 f1, D q = ⟨n1, f1⟩ := ⟨_, _, rfl⟩
            have hcd := hcd.1
            rw [hDq] at cy q2 q3 hrp hcd
            have hn1 : 1 ≤ n1 ∧ n1 ≤ 5 := hcd.1
            have hmx : max 1 n1 = n1 := by omega
            simp only [hmx] at q3 hrp
            have hnK : n1 ≤ K := by have := q2.1; simp only [] at this; omega
            have hz1 := txt_size n1 f1
            have d1 : decide ((q : Int) < 0) = false := decide_eq_false (by omega)
            have c0 : (0 : Int) ≤ (q : Int) := by omega
            have c1' : (q : Int) < (m : Int) := by omega
            have hO3 := Lib.hid (hO.out.alloc (.cells #[.int .i64 (q : Int)] 3))
            have hY2 : Hid (few E D m E.n < 1000 → few E D m (K - n1) < 1000 ∧ rdg E D m E.n = (l ++ [q]) ++ rdg E D m (K - n1)) := fun _ => ⟨by omega, by rw [hrd, hrp, List.append_assoc]; rfl⟩
            have hL2 : Hid ((l ++ [q]).length = z + 1) := by show _ = _; rw [List.length_append, hL.out]; rfl
            have HF := Lib.hid hf
            obtain ⟨ki0, kz0, kz1, kz2⟩ := J.out
            have hbx := Lib.hid hb.out
            have DQ := Lib.hid hDq
            clear hO hb hY hN hcd hDq hrp hrd hf hfk q2 q3 hst hq
            go_wp2_with (at_builtin; refine wpList_append_lies _ rfl _ _ _ rfl X.heap.size 3 i1 (.int .i64 0) 1 8 Try.underlying23 ki0 kz0 kz1 kz2 rfl (by omega) (.slice (some ⟨g2, 0, none⟩) z cp) z _ rfl hO3.out ⟨wr.heap.size, 0, none⟩ 1 1 [.int .i64 (q : Int)] rfl rfl ?d1 (by simp [Value.oneCell']) (by omega) ?d3 ?d4 ?d5 (wr.heap.size + 1) ?d6 ?_)
            try case d1 => exact World.news_of_block (cs := #[.int .i64 (q : Int)]) (t := 3) (fr := (0, 0)) (heap_alloc_new wr _)
            case d3 => unfold maxLen; omega
            case d4 => omega
            case d5 => first | omega | (simp; omega)
            try case d6 => simp
            intro g6 k6 w6 hown6 hg6 hat6 hlt6
            have hg6 : (wr.alloc (.cells #[.int .i64 (q : Int)] 3)).grownBy w6 (some g2) := hg6
            have hb6 : Hid (Below X.heap.size X w6) := (show Below X.heap.size X (wr.alloc (.cells #[.int .i64 (q : Int)] 3)) from hbx.out.alloc hszx _).grown hg6 (by simp; omega) (fun k e => by injection e with e; omega)
            have cy6 : w6.cell? ⟨b2, q, none⟩ = some (.string (txt n1 f1)) := by
              obtain ⟨b3, e3, hb3, hst3⟩ := (HSw.out.below hb6.out) (by omega)
              injection e3 with e3
              injection e3 with e3
              subst e3
              have := hst3 q q1
              rwa [DQ.out] at this
            have HO6 : Hid (w6.ownsRow X.heap.size 3 1 (.slice (some ⟨g6, 0, none⟩) (z + 1) k6) (z + 1) (ints (natI (l ++ [q])))) := by
              rw [show ints (natI (l ++ [q])) = ints (natI l) ++ [.int .i64 (q : Int)] by simp [ints, natI]]
              exact hown6
            have hE : Hid (E.n = p + n1 + (K - n1)) := by show _ = _; omega
            clear hown6 hg6 hO3 hbx ki0 kz0 kz1 kz2 hat6 hlt6 cy x0
            go_wp2_with fail
            go_roundw
            case rel => exact ⟨p + n1, K - n1, z + 1, g6, k6, l ++ [q], by omega, hE, by go_num, rfl, by omega, hL2, hY2, fun h => absurd HF.out h, HO6, hb6⟩
            case measure => first | (simp [intOf]; done) | (simp [intOf]; omega)
          · obtain rfl : p = 0 := hN.out hf
            obtain ⟨rfl, rfl⟩ := hv.out.no (fun x => hf x.2)
            rw [if_neg (by rw [show K = E.n by omega]; exact hf)] at x0
            have HW2 := Lib.hid (bl HW.out (Nat.le_refl _) hb.out)
            clear hO hb hY hN hf hv
            go_wp2
            go_ret2
            have h9 := HW2.out
            have h8 := h9.size
            exact ringRes_nil h8 (by simp) (by go_grown)
        · obtain rfl : K = 0 := by omega
          have hf : few E D m E.n < 1000 := Decidable.byContradiction fun h => by
            have h0 := hN.out h
            rw [show E.n = 0 by omega, few_zero] at h
            omega
          obtain ⟨rfl, rfl⟩ := hv.out.yes ⟨⟨HP.out, HP2.out⟩, hf⟩
          have hrd := (hY.out hf).2
          rw [rdg_zero, List.append_nil] at hrd
          have HO := Lib.hid hO.out
          have HW2 := Lib.hid (bl HW.out (Nat.le_refl _) hb.out)
          have HRD := Lib.hid hrd
          clear hO hb hY hN hv hf hrd
          go_wp2
          go_ret2
          rw [HRD.out]
          exact ringRes_of (by rw [natI_len]; exact hL.out) HO.out (Nat.le_trans hs02 hsz) HW2.out
end Go.Proofs.Ytanfhgliilkhjaa
