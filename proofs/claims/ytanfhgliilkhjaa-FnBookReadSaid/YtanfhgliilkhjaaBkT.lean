/-
  Contracts of HasPrefix, (beats).stands, countReadings, BookReadings of the program.
-/
import Derived.Test.YtanfhgliilkhjaaBkR
import Derived.Maps.OwnSet
namespace Go.Proofs.Ytanfhgliilkhjaa
open Go.RowKit Go.Deep Go.Maps
set_option linter.unusedVariables false

/-- The last k groups. -/
def rst (e : LD) (k : Nat) : Nat → Int := fun i => e.f (e.n - k + i)
theorem txt_size (n : Nat) (f : Nat → Int) : (txt n f).size = n := by rw [txt, strOfNums_size, lst_len]
theorem ba_ext {a b : ByteArray} (h : a.data.toList = b.data.toList) : a = b := ByteArray.ext (Array.toList_inj.1 h)
theorem txt_list (n : Nat) (f : Nat → Int) : (txt n f).data.toList = (List.range n).map fun i => UInt8.ofNat (f i).toNat := by
  rw [txt, strOfNums_data, lst, List.map_map]; rfl
theorem txt_front {n m : Nat} (f : Nat → Int) (h : m ≤ n) : (txt n f).extract 0 m = txt m f := by
  apply ba_ext
  rw [txt_list, ByteArray.data_extract, Array.toList_extract, txt_list]
  apply List.ext_getElem
  · simp [List.extract]; omega
  · intro i h1 h2
    simp [List.extract]
theorem txt_back {n a : Nat} (f : Nat → Int) (h : a ≤ n) : (txt n f).extract a n = txt (n - a) (fun i => f (a + i)) := by
  apply ba_ext
  rw [txt_list, ByteArray.data_extract, Array.toList_extract, txt_list]
  apply List.ext_getElem
  · simp [List.extract]
  · intro i h1 h2
    simp [List.extract]
theorem grpV_rst {e : LD} (h : grpV e.n e.f) {k : Nat} (hk : k ≤ e.n) : grpV k (rst e k) := fun i hi => h (e.n - k + i) (by omega)
theorem rst_all (e : LD) : rst e e.n = e.f := by funext i; show e.f (e.n - e.n + i) = _; congr 1; omega
theorem rst_step {e : LD} {k a : Nat} (hk : k ≤ e.n) (ha : a ≤ k) : (fun i => rst e k (a + i)) = rst e (k - a) := by
  funext i; show e.f (e.n - k + (a + i)) = e.f (e.n - (k - a) + i); congr 1; omega
theorem txt_toList {n m : Nat} {f g : Nat → Int} (hf : grpV n f) (hg : grpV m g) : ((txt n f).toList == (txt m g).toList) = decide (n = m ∧ ∀ i, i < n → f i = g i) := by
  by_cases h : n = m ∧ ∀ i, i < n → f i = g i
  · rw [decide_eq_true h, (txt_eq hf hg).2 h]; simp
  · rw [decide_eq_false h]; exact txt_ne (fun e => h ((txt_eq hf hg).1 e))
theorem stAt_rst {e d : LD} {k : Nat} (hk : k ≤ e.n) : stAt e (e.n - k) d ↔ (d.n ≤ k ∧ ∀ i, i < d.n → rst e k i = d.f i) := by
  unfold stAt rst
  constructor
  · rintro ⟨h1, h2⟩; exact ⟨by omega, h2⟩
  · rintro ⟨h1, h2⟩; exact ⟨by omega, h2⟩
theorem hpLite (s p : ByteArray) (w : World) (hs : s.size ≤ 1000) (hp : p.size ≤ 1000) (v : Bool) (hv : Hid (v = (decide (p.size ≤ s.size) && (s.extract 0 p.size).toList == p.toList))) :
    Calls Try.prog 91 #[.string s, .string p] w fun e w' => e = .returned (.bool v) ∧ w' = w := by
  by_cases h : p.size ≤ s.size
  · have d1 : decide ((p.size : Int) ≤ (s.size : Int)) = true := decide_eq_true (by omega)
    go_enter Try.func91, Try.ntmps91
    go_wp2
    go_ret
    exact ⟨by rw [hv.out, decide_eq_true h, Bool.true_and]; rfl, rfl⟩
  · have d1 : decide ((p.size : Int) ≤ (s.size : Int)) = false := decide_eq_false (by omega)
    go_enter Try.func91, Try.ntmps91
    go_wp2
    go_ret
    exact ⟨by rw [hv.out, decide_eq_false h, Bool.false_and]; rfl, rfl⟩
theorem hpStd (s p : ByteArray) (w : World) (hs : s.size ≤ 1000) (hp : p.size ≤ 1000) (v : Bool) (hv : Hid (v = (decide (p.size ≤ s.size) && (s.extract 0 p.size).toList == p.toList))) :
    Calls Try.prog 88 #[.string s, .string p] w fun e w' => e = .returned (.bool v) ∧ w' = w := by
  have H := Lib.hid (hpLite s p w hs hp v hv)
  clear hv
  go_enter Try.func88, Try.ntmps88
  go_wp2_with fail
  refine H.out.mono ?_
  rintro e w1 ⟨rfl, rfl⟩
  go_wp2
  go_ret
  exact ⟨rfl, rfl⟩
theorem iStands (d : LD) (k : Nat) (g : Nat → Int) (w : World) (hd : grpV d.n d.f) (hg : grpV k g) (hdn : d.n ≤ 1000) (hk : k ≤ 1000) (v : Bool) (hv : Hid (v = true ↔ (d.n ≤ k ∧ ∀ i, i < d.n → g i = d.f i))) :
    Calls Try.prog 65 #[.string (txt d.n d.f), .string (txt k g)] w fun e w' => e = .returned (.bool v) ∧ w' = w := by
  have H := Lib.hid (hpStd (txt k g) (txt d.n d.f) w (by rw [txt_size]; exact hk) (by rw [txt_size]; exact hdn) v (by
    show v = _
    rw [txt_size, txt_size]
    by_cases h : d.n ≤ k
    · rw [txt_front g h, txt_toList (fun i hi => hg i (by omega)) hd, decide_eq_true h, Bool.true_and, Bool.eq_iff_iff, hv.out, decide_eq_true_iff]
      exact ⟨fun x => ⟨rfl, x.2⟩, fun x => ⟨h, x.2⟩⟩
    · rw [decide_eq_false h, Bool.false_and]
      cases v
      · rfl
      · exact absurd (hv.out.1 rfl).1 h))
  clear hv hd hg
  go_enter Try.func65, Try.ntmps65
  go_wp2_with fail
  refine H.out.mono ?_
  rintro e w1 ⟨rfl, rfl⟩
  go_wp2
  go_ret
  exact ⟨rfl, rfl⟩
/-- How many of the keys 0 .. k - 1 are there. -/
def cnt (M : DataW Unit) : Nat → Nat
  | 0 => 0
  | k + 1 => cnt M k + if Maps.has M (.int .i64 (k : Int)) = true then 1 else 0
theorem cnt_le (M : DataW Unit) (k : Nat) : cnt M k ≤ k := by
  induction k with
  | zero => exact Nat.le_refl _
  | succ k ih => show cnt M k + _ ≤ _; split <;> omega
theorem keyLit (a : Int) : WideAt.IsKeyLit (.int .i64 a) := trivial
theorem lit_ne {a b : Int} (h : a ≠ b) : (Lit.int .i64 a) ≠ .int .i64 b := fun e => h (by injection e)
theorem cnt_put {M : DataW Unit} (hM : IsMap M) {j : Nat} (d : DataW Unit) (k : Nat) : cnt (M.put (.int .i64 (j : Int)) d) k = cnt M k + if j < k ∧ Maps.has M (.int .i64 (j : Int)) = false then 1 else 0 := by
  induction k with
  | zero => simp [cnt]
  | succ k ih =>
    show cnt _ k + _ = cnt M k + _ + _
    rw [ih]
    by_cases e : j = k
    · subst e
      rw [has_put_same hM (keyLit _), if_pos rfl]
      cases hh : Maps.has M (.int .i64 (j : Int)) <;> simp
    · have hne : (Lit.int .i64 (k : Int)) ≠ .int .i64 (j : Int) := lit_ne (by omega)
      rw [has_put_other hne]
      by_cases hl : j < k
      · simp only [show j < k + 1 by omega, hl, true_and]; omega
      · simp only [show ¬ j < k + 1 by omega, hl, false_and, if_false]; omega
/-- What the map of readings found holds. -/
def Memo (E : LD) (D : Nat → LD) (m B : Nat) (w : World) : Prop := ∃ M : DataW Unit, w.ownsMap Try.prog 3 (plainElem Try.prog 3) B (Maps.size M) M ∧ Tidy M ∧ Maps.size M ≤ cnt M 21 ∧
  ∀ j : Nat, Maps.has M (.int .i64 (j : Int)) = true → j ≤ 20 → M.atKey (.int .i64 (j : Int)) (.lit (.int .i64 0)) = .lit (.int .i64 (ways E D m j : Int))
theorem ownsMap_size {w : World} {P : Program} {k : TypeId} {R : Value → Option (DataW Unit × List MemPlace)} {b n : Nat} {M : DataW Unit} (h : w.ownsMap P k R b n M) : w.ownsMap P k R b (Maps.size M) M := by
  obtain ⟨es, clock, hb, F, hs, hD⟩ := h
  refine ⟨es, clock, hb, F, ?_, hD⟩
  rw [hD]
  show es.size ≤ List.length _
  rw [length_sorted]; simp
theorem Memo.kept {E : LD} {D : Nat → LD} {m B : Nat} {w w' : World} (h : Memo E D m B w) {row : Option Nat} (hg : w.grownBy w' row) (hne : some B ≠ row) : Memo E D m B w' := by
  obtain ⟨M, h1, h2⟩ := h
  exact ⟨M, h1.kept hg hne, h2⟩
theorem Memo.lt {E : LD} {D : Nat → LD} {m B : Nat} {w : World} (h : Memo E D m B w) : B < w.heap.size := by
  obtain ⟨M, h1, h2⟩ := h
  exact h1.lt
theorem Memo.put {E : LD} {D : Nat → LD} {m B : Nat} {w : World} {M : DataW Unit} {n j : Nat} (hj : j ≤ 20) (ht : Tidy M) (hs : Maps.size M ≤ cnt M 21) (hv : ∀ j : Nat, Maps.has M (.int .i64 (j : Int)) = true → j ≤ 20 → M.atKey (.int .i64 (j : Int)) (.lit (.int .i64 0)) = .lit (.int .i64 (ways E D m j : Int)))
    (ho : w.ownsMap Try.prog 3 (plainElem Try.prog 3) B n (M.put (.int .i64 (j : Int)) (.lit (.int .i64 (ways E D m j : Int))))) : Memo E D m B w := by
  refine ⟨_, ownsMap_size ho, ht.put (keyLit _) _, ?_, fun i hi h20 => ?_⟩
  · rw [size_put ht, cnt_put ht.isMap]
    cases hh : Maps.has M (.int .i64 (j : Int))
    · simp only [show j < 21 by omega, and_self, if_true]; simp; omega
    · simp; omega
  · by_cases e : i = j
    · subst e; rw [atKey_put_same ht.isMap (keyLit _)]
    · have hne : (Lit.int .i64 (i : Int)) ≠ .int .i64 (j : Int) := lit_ne (by omega)
      rw [has_put_other hne] at hi
      rw [atKey_put_other hne]
      exact hv i hi h20
theorem zeroInt (w : World) : (zeroValue 3).run Try.prog w = .ok (.int .i64 0) w := by kernel_rfl
theorem lawInt : Keyed Try.prog 3 := int_keyed Try.underlying3
set_option maxRecDepth 100000 in
set_option maxHeartbeats 4000000 in
theorem iCount (E : LD) (D : Nat → LD) (m : Nat) (hb : bookV D m) (hE : grpV E.n E.f) (hn : E.n ≤ 20) : ∀ k, k ≤ E.n → ∀ (A : Option Addr) (c B : Nat) (w : World), StRn w B A m D → Memo E D m B w →
    Calls Try.prog 66 #[.slice A m c, .string (txt k (rst E k)), .map (some B)] w fun e w' => e = .returned (.int .i64 (ways E D m k : Int)) ∧ Memo E D m B w' ∧ w.grownBy w' (some B) := by
  intro k
  induction k using Nat.strongRecOn with
  | _ k ih =>
  intro hk A c B w hA hM
  have hz := txt_size k (rst E k)
  have hm10 := hb.1
  by_cases h0 : k = 0
  · subst h0
    have d0 : (((txt 0 (rst E 0)).size : Int) == 0) = true := by rw [hz]; rfl
    have hM := Lib.hid hM
    have hw : Hid (ways E D m 0 = 1) := ways_zero E D m
    clear ih hA hz
    go_enter Try.func66, Try.ntmps66
    go_wp2
    go_ret
    exact ⟨by rw [hw.out]; rfl, hM.out, gb_refl _ _⟩
  have d0 : ((k : Int) == 0) = false := beq_eq_false_iff_ne.2 (by omega)
  have hkn : k ≤ 20 := by omega
  obtain ⟨M, ho, ht, hs, hv⟩ := hM
  have hlk : keyOf Try.prog 3 (.int .i64 (k : Int)) = some (.int .i64 (k : Int)) := keyOf_int_mk Try.underlying3 (WalkArith.wf_i64 (by omega))
  have HM := Lib.hid (show Memo E D m B w from ⟨M, ho, ht, hs, hv⟩)
  have TT := Lib.hid (And.intro ht (And.intro hs hv))
  cases hh : Maps.has M (.int .i64 (k : Int))
  rotate_left
  · have hval := Lib.hid (hv k hh hkn)
    clear ih hv ht hs
    go_enter Try.func66, Try.ntmps66
    go_wp2_with (at_lookup; refine wpList_lookup_own_ok_int _ rfl _ _ 89 rfl 3 3 .i64 lawInt Try.underlying89 Try.underlying3 (zeroInt _) B _ _ rfl ho _ _ rfl hlk ?_; intro cc hat hwc)
    go_ret
    rw [hval.out] at hat
    injection hat with hat
    injection hat with _ hat
    exact ⟨by rw [hat]; rfl, HM.out, gb_refl _ _⟩
  have IH := Lib.hid ih
  have HA := Lib.hid hA
  clear ih hv ht hs hA
  go_enter Try.func66, Try.ntmps66
  go_wp2_with (at_lookup; refine wpList_lookup_own_ok_int _ rfl _ _ 89 rfl 3 3 .i64 lawInt Try.underlying89 Try.underlying3 (zeroInt _) B _ _ rfl ho _ _ rfl hlk ?_; intro cc hat hwc)
  have hBl := HM.out.lt
  clear ho hat hwc hh TT
  go_loopw [9, 26] (fun v i wr => ∃ j : Nat, j ≤ m ∧ i = .int .i64 j ∧ v = .int .i64 ((smW E D k (ways E D m) j : Nat) : Int) ∧ Hid (Memo E D m B wr) ∧ Hid (w.grownBy wr (some B))) (fun _ i _ => (m - intOf i).toNat)
  case atStart => exact ⟨0, Nat.zero_le _, rfl, rfl, HM.out, gb_refl _ _⟩
  case round =>
    clear HM
    obtain ⟨j, hj, rfl, rfl, hM, hg⟩ := hrel
    have hsm := smW_sm (e := E) (k := k) hb (by omega) hkn hj
    have hgs := hg.out.size
    by_cases hlt : j < m
    · have HAw := Lib.hid (HA.out.keep (w' := wr) (fun b hbB => hg.out.block b (Nat.lt_trans hbB hBl) (fun e => by injection e with e; omega)))
      obtain ⟨b2, rfl, hb2, hst⟩ := HAw.out (by omega)
      have cy := hst j hlt
      have hcd := hb.2 j hlt
      obtain ⟨n1, f1, hDq⟩ : ∃ n1 f1, D j = ⟨n1, f1⟩ := ⟨_, _, rfl⟩
      have hS : smW E D k (ways E D m) (j + 1) = smW E D k (ways E D m) j + if stAt E (E.n - k) (D j) then ways E D m (k - max 1 (D j).n) else 0 := rfl
      have hsm2 := smW_sm (e := E) (k := k) hb (by omega) hkn (show j + 1 ≤ m from hlt)
      have hstr := stAt_rst (e := E) (d := D j) hk
      rw [hDq] at cy hS hstr
      have hcd := hcd.1
      rw [hDq] at hcd
      have hn1 : 1 ≤ n1 ∧ n1 ≤ 5 := hcd.1
      have HG := Lib.hid hcd.2
      have hGr := Lib.hid (grpV_rst hE hk)
      have j0 : (0 : Int) ≤ (j : Int) := by omega
      have j1 : (j : Int) < (m : Int) := by omega
      obtain ⟨S, hSe⟩ : ∃ S, smW E D k (ways E D m) j = S := ⟨_, rfl⟩
      obtain ⟨S2, hSe2⟩ : ∃ S2, smW E D k (ways E D m) (j + 1) = S2 := ⟨_, rfl⟩
      rw [hSe] at hS hsm ⊢
      rw [hSe2] at hS hsm2
      have HS2 := Lib.hid hSe2
      clear hSe hSe2
      by_cases hs : n1 ≤ k ∧ ∀ i, i < n1 → rst E k i = f1 i
      · have HST := Lib.hid (fun W => iStands ⟨n1, f1⟩ k (rst E k) W HG.out hGr.out (by simp only []; omega) (by omega) true ⟨fun _ => hs, fun _ => rfl⟩)
        rw [if_pos (hstr.2 hs)] at hS
        simp only [] at hS
        have hnk := hs.1
        have hmx : max 1 n1 = n1 := by omega
        rw [hmx] at hS
        have hz1 := txt_size n1 f1
        have hzk := txt_size k (rst E k)
        have hex : (txt k (rst E k)).extract n1 k = txt (k - n1) (rst E (k - n1)) := by rw [txt_back _ hnk, rst_step hk hnk]
        have HC := Lib.hid (fun (W : World) => IH.out (k - n1) (by omega) (by omega) (some ⟨b2, 0, none⟩) c B W)
        have HSS := Lib.hid hS
        have hw9 : 0 ≤ (ways E D m (k - n1) : Int) ∧ (S : Int) + (ways E D m (k - n1) : Int) < 9223372036854775807 := by omega
        clear hs hcd hDq hS hstr hst IH
        go_wp2_with fail
        refine (HST.out _).mono ?_
        rintro e w1 ⟨rfl, rfl⟩
        go_wp2_with fail
        refine (HC.out _ HAw.out hM.out).mono ?_
        rintro e w2 ⟨rfl, hM2, hg2⟩
        have HM2 := Lib.hid hM2
        have hg3 := Lib.hid (gb_trans hg.out hg2)
        clear hM2 hg2 hM hg cy HAw
        go_wp2
        go_roundw
        case rel => exact ⟨j + 1, by omega, by go_num, by rw [HS2.out, HSS.out]; go_num, HM2.out, hg3.out⟩
        case measure => simp [intOf]; omega
      · have HST := Lib.hid (fun W => iStands ⟨n1, f1⟩ k (rst E k) W HG.out hGr.out (by simp only []; omega) (by omega) false ⟨fun x => (by cases x), fun x => absurd x hs⟩)
        rw [if_neg (fun x => hs (hstr.1 x))] at hS
        have HSS := Lib.hid hS
        clear hs hcd hDq hS hstr hst IH
        go_wp2_with fail
        refine (HST.out _).mono ?_
        rintro e w1 ⟨rfl, rfl⟩
        go_wp2
        go_roundw
        case rel => exact ⟨j + 1, by omega, by go_num, by rw [HS2.out, HSS.out]; rfl, hM.out, hg.out⟩
        case measure => simp [intOf]; omega
    · obtain rfl : j = m := by omega
      have hW : Hid (ways E D j k = smW E D k (ways E D j) j) := ways_pos (by omega)
      rw [← ways_pos (by omega)] at hsm ⊢
      obtain ⟨M2, ho2, ht2, hs2, hv2⟩ := hM.out
      have TT := Lib.hid (And.intro ht2 (And.intro hs2 hv2))
      have hsz2 : Maps.size M2 < maxLen := by have := cnt_le M2 21; unfold maxLen; omega
      clear hs2 hv2 ht2 hW
      go_wp2_with (at_mapUpdate; refine wpList_mapUpdate_own _ rfl _ _ _ 89 rfl 3 3 lawInt Try.underlying89 _ B _ _ rfl ho2 hsz2 _ _ _ rfl rfl hlk _ [] (plainElem_int Try.underlying3 (WalkArith.wf_i64 (by omega))) ?_; intro w1 hown1 hgrow1)
      have HM3 := Lib.hid (Memo.put (E := E) (D := D) (m := j) hkn TT.out.1 TT.out.2.1 TT.out.2.2 hown1)
      have hg3 := Lib.hid (gb_trans hg.out hgrow1)
      clear hown1 hgrow1 ho2 TT hg hM
      go_ret
      exact ⟨rfl, HM3.out, hg3.out⟩
/-- BookReadings. -/
def ringB (E : LD) (D : Nat → LD) (m : Nat) : Prop := bookV D m ∧ (E.n ≤ 20 ∧ grpV E.n E.f)
set_option maxHeartbeats 4000000 in
theorem iReadings (A : Option Addr) (m c : Nat) (D : Nat → LD) (R : Option Addr) (d : Nat) (E : LD) (w : World) (h : SsRn w w.heap.size A m D) (hm : m ≤ 1048576) (hD : ∀ i, i < m → (D i).n ≤ 1048576)
    (hR : Rn w w.heap.size R E.n E.f) (hn : E.n ≤ 1048576) (v : Int) (hv : Hid ((ringB E D m ∧ v = (ways E D m E.n : Int)) ∨ (¬ ringB E D m ∧ v = -1))) :
    Calls Try.prog 30 #[.slice A m c, .slice R E.n d] w fun e w' => e = .returned (.int .i64 v) ∧ Below w.heap.size w w' := by
  have HB := Lib.hid (iBook A m c D w h hm hD)
  have HR := Lib.hid hR
  have hmm := @run_makeMap Try.prog
  clear h hD hR
  go_enter Try.func30, Try.ntmps30
  go_wp2_with fail
  refine HB.out.mono ?_
  rintro e w1 ⟨⟨hp, A1, c1, rfl, hS⟩ | ⟨hp, rfl⟩, hb⟩
  rotate_left
  · obtain rfl : v = -1 := by
      rcases hv.out with x | x
      · exact absurd x.1.1 hp
      · exact x.2
    have HB1 := Lib.hid hb
    have HR1 := Lib.hid (HR.out.topb hb)
    clear hp hb HR
    go_wp2_with fail
    refine (iBeats R E.n d E.f 20 _ HR1.out hn (by omega)).mono ?_
    rintro e w2 ⟨⟨hp2, rfl⟩ | ⟨hp2, rfl⟩, hb2⟩
    all_goals
      have HB2 := Lib.hid (bl HB1.out (Nat.le_refl _) hb2)
      clear hp2 hb2
      go_wp2
      go_ret
      exact ⟨rfl, HB2.out⟩
  have HP := Lib.hid hp
  have HS := Lib.hid hS
  have HB1 := Lib.hid hb
  have HR1 := Lib.hid (HR.out.topb hb)
  clear hp hb HR hS
  go_wp2_with fail
  refine (iBeats R E.n d E.f 20 _ HR1.out hn (by omega)).mono ?_
  rintro e w2 ⟨⟨hp2, rfl⟩ | ⟨hp2, rfl⟩, hb2⟩
  rotate_left
  · obtain rfl : v = -1 := by
      rcases hv.out with x | x
      · exact absurd x.1.2 hp2
      · exact x.2
    have HB2 := Lib.hid (bl HB1.out (Nat.le_refl _) hb2)
    clear hp2 hb2
    go_wp2
    go_ret
    exact ⟨rfl, HB2.out⟩
  obtain rfl : v = (ways E D m E.n : Int) := by
    rcases hv.out with x | x
    · exact x.2
    · exact absurd ⟨HP.out, hp2⟩ x.1
  have HP2 := Lib.hid hp2
  have HB2 := Lib.hid (bl HB1.out (Nat.le_refl _) hb2)
  have HS2 := Lib.hid ((HS.out.below hb2).up hb2.size)
  have sz2 := HB2.out.size
  have HM : Hid (Memo E D m w2.heap.size (w2.alloc (.map #[] 0))) := ⟨.map [], World.ownsMap_made _ _ _ _, tidy_empty, Nat.zero_le _, fun j hj => by cases hj⟩
  have HC := Lib.hid (iCount E D m HP.out HP2.out.2 HP2.out.1 E.n (Nat.le_refl _) A1 c1 w2.heap.size (w2.alloc (.map #[] 0)) (HS2.out.keep fun k hk => blk_alloc_lt _ _ _ hk) HM.out)
  rw [rst_all] at HC
  clear hp2 hb2 HS HS2 HM hv
  go_wp2_with fail
  refine HC.out.mono ?_
  rintro e w3 ⟨rfl, _, hg⟩
  have HB3 : Hid (Below w.heap.size w w3) := (HB2.out.alloc sz2 _).grown hg (by simp; omega) (fun k e => by injection e with e; omega)
  clear hg
  go_wp2
  go_ret
  exact ⟨rfl, HB3.out⟩
end Go.Proofs.Ytanfhgliilkhjaa
