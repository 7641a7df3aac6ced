/-
  Registers: contracts of registerOf, list, until.
-/
import Derived.Test.YtanfhgliilkhjaaRegL
import Derived.Deep.AppendLies
import Derived.Laws.MakeOwn
namespace Go.Proofs.Ytanfhgliilkhjaa
open Go.RowKit Go.Deep
set_option linter.unusedVariables false

theorem noteInfo : (Try.prog.info? 71).map (fun i => (i.zero, i.size, i.bytes)) = some (some (.agg #[.int .i64 0, .string ⟨#[]⟩]), 2, 24) := by kernel_rfl
theorem Rg.alloc {w : World} {lo R m : Nat} {bs : Nat → Nat} {N : Nat → ND} (h : Rg w lo R m bs N) (o : Obj) : Rg (w.alloc o) lo R m bs N := h.keep (blk_alloc_lt _ _ _ h.lt.1) (fun i hi => blk_alloc_lt _ _ _ (h.lt.2 i hi))
/-- registerOf's result. -/
def RofRes (w : World) (m : Nat) (N : Nat → ND) (v : Bool) (e : Ending) (w' : World) : Prop :=
  ∃ bs : Nat → Nat, e = .returned (.tuple #[.pointer (some ⟨w.heap.size, 0, none⟩), .bool v]) ∧ (m ≤ 30 → Rg w' w.heap.size w.heap.size m bs N) ∧ Below w.heap.size w w'
theorem Rg.new (w : World) (N : Nat → ND) (T : TypeId) : Rg (w.alloc (.cells #[.pointer none, .pointer none, .int .i64 0] T)) w.heap.size w.heap.size 0 (fun _ => 0) N :=
  ⟨Nat.le_refl _, Bx.new w [.pointer none, .pointer none, .int .i64 0] T, fun i hi => absurd hi (by omega), fun i j hi => absurd hi (by omega)⟩
set_option maxHeartbeats 1000000 in
theorem iRegOf (v : Bool) (A : Option Addr) (m c : Nat) (N : Nat → ND) (w : World) (h : NsRn w w.heap.size A m N) (hm : m ≤ 1099511627776) (hv : regV N m = v) :
    Calls Try.prog 59 #[.slice A m c] w (RofRes w m N v) := by
  by_cases h30 : 30 < m
  · have hr := hide (show v = false by rw [← hv]; exact regV_no (by omega))
    have d : decide ((30 : Int) < (m : Int)) = true := decide_eq_true (by omega)
    clear h hv
    go_enter Try.func59, Try.ntmps59
    go_wp2
    go_ret2
    exact ⟨fun _ => 0, by simp [hr.out], fun x => by omega, by go_grown⟩
  have d : decide ((30 : Int) < (m : Int)) = false := decide_eq_false (by omega)
  have H := Lib.hid h
  have V := Lib.hid hv
  have R0 := Lib.hid (Rg.new w N 92)
  clear h hv
  go_enter Try.func59, Try.ntmps59
  go_wp2
  go_loopw [15] (fun i wr => ∃ (k : Nat) (bs : Nat → Nat), k ≤ m ∧ i = .int .i64 k ∧ Rg wr w.heap.size w.heap.size k bs N ∧ Below w.heap.size w wr) (fun i _ => m - (intOf i).toNat)
  case atStart => exact ⟨0, _, Nat.zero_le _, rfl, R0.out, by go_grown⟩
  case round =>
    clear R0
    obtain ⟨k, bs, hk, rfl, hR, hb⟩ := hrel
    have hsz := hb.size
    by_cases hlt : k < m
    · obtain ⟨b, off, rfl, hbB, hc⟩ := H.out (by omega)
      obtain ⟨x0, x1⟩ := hc k hlt
      have y0 := (hb.cell (p := ⟨b, off + k * 2, none⟩) hbB).trans x0
      have y1 := (hb.cell (p := ⟨b, off + k * 2 + 1, none⟩) hbB).trans x1
      have hk0 : (0 : Int) ≤ (k : Int) := by omega
      have hk1 : (k : Int) < (m : Int) := by omega
      have RH := Lib.hid (hR.alloc (.cells #[.int .i64 (N k).t, .string (N k).s] 71))
      have HB := Lib.hid (show Below w.heap.size w (wr.alloc (.cells #[.int .i64 (N k).t, .string (N k).s] 71)) from hb.alloc hsz _)
      clear hc x0 x1 hR hb
      go_wp2_with fail
      refine (iPut w.heap.size w.heap.size k bs N (N k).t (N k).s _ RH.out (by simp; omega) (by omega)).mono ?_
      rintro e w1 ⟨rfl, b1, hb1, hR1, hw1⟩
      have hbl : Below w.heap.size w w1 := HB.out.trans (hw1.below (by simp; omega) (fun x hx => by
        rcases hx with rfl | ⟨h0, rfl⟩
        · exact Nat.le_refl _
        · exact (RH.out.2.2.1 (k - 1) (by omega)).1))
      have R1 := Lib.hid (hR1.congr (M := N) (fun i hi => by
        unfold updN
        by_cases c : i = k
        · subst c; rw [if_pos rfl]
        · rw [if_neg c]))
      have HB1 := Lib.hid hbl
      clear hR1 hw1 hbl RH HB y0 y1
      go_wp2
      go_roundw
      case rel => exact ⟨k + 1, _, by omega, by go_num, R1.out, HB1.out⟩
      case measure => simp [intOf]; omega
    · obtain rfl : k = m := by omega
      have RH := Lib.hid hR
      have HB := Lib.hid hb
      clear hR hb
      go_wp2_with fail
      refine (iRegValid v w.heap.size w.heap.size k bs N _ RH.out (by omega) V.out).mono ?_
      rintro e w1 ⟨rfl, rfl⟩
      go_wp2
      go_ret2
      exact ⟨bs, rfl, fun _ => RH.out, HB.out⟩
/-- Notes, as cells. -/
def ncells (N : Nat → ND) : Nat → List Value
  | 0 => []
  | k + 1 => ncells N k ++ [.int .i64 (N k).t, .string (N k).s]
theorem ncells_len (N : Nat → ND) (k : Nat) : (ncells N k).length = k * 2 := by
  induction k with
  | zero => rfl
  | succ k ih => rw [ncells, List.length_append, ih]; simp; omega
theorem ncells_at (N : Nat → ND) {k i : Nat} (h : i < k) : (ncells N k)[i * 2]? = some (.int .i64 (N i).t) ∧ (ncells N k)[i * 2 + 1]? = some (.string (N i).s) := by
  induction k with
  | zero => omega
  | succ k ih =>
    have hl := ncells_len N k
    rw [ncells]
    by_cases e : i = k
    · subst e
      refine ⟨?_, ?_⟩
      · rw [List.getElem?_append_right (by omega), hl]; simp
      · rw [List.getElem?_append_right (by omega), hl, show i * 2 + 1 - i * 2 = 1 by omega]; rfl
    · obtain ⟨h1, h2⟩ := ih (by omega)
      exact ⟨by rw [List.getElem?_append_left (by omega), h1], by rw [List.getElem?_append_left (by omega), h2]⟩
theorem ncells_one (N : Nat → ND) (k : Nat) : ∀ u ∈ ncells N k, u.oneCell' = true := by
  induction k with
  | zero => intro u hu; simp [ncells] at hu
  | succ k ih =>
    intro u hu
    rw [ncells, List.mem_append] at hu
    rcases hu with hu | hu
    · exact ih u hu
    · simp only [List.mem_cons, List.not_mem_nil, or_false] at hu
      rcases hu with rfl | rfl <;> rfl
theorem NsOw.of_owns {w : World} {base e g n cap : Nat} {N : Nat → ND} (h : w.ownsRow base e 2 (.slice (some ⟨g, 0, none⟩) n cap) n (ncells N n)) : NsOw w g (some ⟨g, 0, none⟩) n N := fun hn => by
  have hlt := h.lt g rfl
  have hc : ∀ j u, (ncells N n)[j]? = some u → w.cell? ⟨g, 0 + j, none⟩ = some u := fun j u hu => by
    have := h.cells (g := g) rfl j u hu
    have e : (⟨g, 0, none⟩ : Addr).add j = ⟨g, 0 + j, none⟩ := by unfold Addr.add; split <;> simp_all
    rwa [e] at this
  refine ⟨0, rfl, hlt.2, fun i => ?_, fun i hi => ⟨hc _ _ (ncells_at N hi).1, ?_⟩⟩
  · obtain ⟨_, ho⟩ := h
    rcases ho with ⟨hv, _⟩ | ⟨g', cap', cur, hv, _, hg, _⟩
    · cases hv
    · simp only [Value.slice.injEq, Option.some.injEq, Addr.mk.injEq, and_true, true_and] at hv
      obtain ⟨rfl, rfl⟩ := hv
      simp [World.frozen?, hg]
  · have := hc _ _ (ncells_at N hi).2
    rwa [← Nat.add_assoc] at this
theorem one_note (t : Int) (s : ByteArray) : ∀ u ∈ [Value.int .i64 t, .string s], u.oneCell' = true := by
  intro u hu
  simp only [List.mem_cons, List.not_mem_nil, or_false] at hu
  rcases hu with rfl | rfl <;> rfl
theorem owns_cap {w : World} {base e g n cap s : Nat} {xs : List Value} (h : w.ownsRow base e s (.slice (some ⟨g, 0, none⟩) n cap) n xs) : n ≤ cap ∧ cap ≤ maxLen ∧ base ≤ g := by
  obtain ⟨_, ho⟩ := h
  rcases ho with ⟨hv, _⟩ | ⟨g', cap', cur, hv, hb, _, h1, h2, _⟩
  · cases hv
  · simp only [Value.slice.injEq, Option.some.injEq, Addr.mk.injEq, and_true, true_and] at hv
    obtain ⟨rfl, rfl⟩ := hv
    exact ⟨h1, h2, hb⟩
/-- A slice of notes has been made. -/
def NotesRes (w : World) (m : Nat) (N : Nat → ND) (e : Ending) (w' : World) : Prop :=
  ∃ g c : Nat, e = .returned (.slice (some ⟨g, 0, none⟩) m c) ∧ (w.heap.size ≤ g ∧ g < w'.heap.size) ∧ NsOw w' g (some ⟨g, 0, none⟩) m N ∧ Below w.heap.size w w'
set_option maxRecDepth 100000 in
set_option maxHeartbeats 1000000 in
theorem iList (lo R m : Nat) (bs : Nat → Nat) (N : Nat → ND) (w : World) (h : Rg w lo R m bs N) (hm : m ≤ 60) :
    Calls Try.prog 69 #[.pointer (some ⟨R, 0, none⟩)] w (NotesRes w m N) := by
  obtain ⟨p0, pi0, pz0, pz1, pz2⟩ := info_parts noteInfo
  obtain ⟨x0, x1, x2⟩ := h.top
  have hmk := fun W : World => run_make (P := Try.prog) W 36 71 p0 (.agg #[.int .i64 0, .string ⟨#[]⟩]) Try.underlying36 pi0 pz0 .i64 .i64 0 m (by omega) (by omega) (by rw [pz2]; omega) (by omega)
  simp only [Int.toNat_natCast, pz1] at hmk
  have H := Lib.hid h
  clear h
  have lR := H.out.lt.1
  have O0 := Lib.hid (World.ownsRow_made (base := w.heap.size) (size := 2) (e := 71) w (madeCells (Value.agg #[.int .i64 0, .string ⟨#[]⟩]).cells (m * 2)) m (Nat.le_refl _) (by unfold maxLen; omega) (by simp [madeCells]))
  go_enter Try.func69, Try.ntmps69
  go_wp2
  go_loopg [3, 4] m (fun gk out p wr => ∃ k g cp : Nat, gk + k = m ∧ p = .pointer (nxt m bs k) ∧ out = .slice (some ⟨g, 0, none⟩) k cp ∧ wr.ownsRow w.heap.size 71 2 (.slice (some ⟨g, 0, none⟩) k cp) k (ncells N k) ∧ Below w.heap.size w wr)
  case atStart => exact ⟨0, _, _, by omega, rfl, rfl, O0.out, by go_grown⟩
  case round =>
    clear hmk x0 x1 x2 O0
    obtain ⟨k, g, cp, hk, rfl, rfl, ho, hb⟩ := hrel
    have hsz := hb.size
    by_cases hlt : k < m
    · obtain ⟨y0, y1, y2⟩ := H.out.at_ hlt
      have lk := H.out.lt.2 k hlt
      have z0 := (hb.cell (p := ⟨bs k, 0, none⟩) lk).trans y0
      have z1 := (hb.cell (p := ⟨bs k, 1, none⟩) lk).trans y1
      have en : nxt m bs k = some ⟨bs k, 0, none⟩ := nxt_lt hlt
      rw [en]
      have hcp := owns_cap ho
      have lg := ho.lt g rfl
      have HO := Lib.hid (ho.alloc (.cells #[.int .i64 (N k).t, .string (N k).s] 71))
      have HBw := Lib.hid hb
      clear en y0 y1 ho hb
      go_wp2_with (at_builtin; refine wpList_append_lies _ rfl _ _ _ rfl w.heap.size 71 p0 (.agg #[.int .i64 0, .string ⟨#[]⟩]) 2 24 Try.underlying36 pi0 pz0 pz1 pz2 rfl (by omega) (.slice (some ⟨g, 0, none⟩) k cp) k (ncells N k) rfl HO.out ⟨wr.heap.size, 0, none⟩ 1 1 [.int .i64 (N k).t, .string (N k).s] rfl rfl ?d1 (one_note _ _) (by omega) ?d3 ?d4 ?d5 (wr.heap.size + 1) ?d6 ?_)
      try case d1 => exact World.news_of_block (cs := #[.int .i64 (N k).t, .string (N k).s]) (t := 71) (fr := (0, 0)) (heap_alloc_new wr _)
      case d3 => unfold maxLen; omega
      case d4 => omega
      case d5 => first | omega | (simp; omega)
      try case d6 => simp
      intro g6 k6 w6 hown6 hg6 hat6 hlt6
      have hg6 : (wr.alloc (.cells #[.int .i64 (N k).t, .string (N k).s] 71)).grownBy w6 (some g) := hg6
      have hb6 : Below w.heap.size w w6 := (show Below w.heap.size w (wr.alloc (.cells #[.int .i64 (N k).t, .string (N k).s] 71)) from HBw.out.alloc hsz _).grown hg6 (by simp; omega) (fun k e => by injection e with e; omega)
      have z2 := (hb6.cell (p := ⟨bs k, 2, none⟩) lk).trans y2
      have HO6 := Lib.hid hown6
      have HB6 := Lib.hid hb6
      clear hown6 hg6 hb6 HO HBw z0 z1 y2
      go_wp2_with fail
      go_roundg (gk - 1)
      case measure => omega
      case rel => exact ⟨k + 1, g6, k6, by omega, rfl, rfl, HO6.out, HB6.out⟩
    · obtain rfl : k = m := by omega
      have en : nxt k bs k = none := nxt_ge (Nat.le_refl _)
      rw [en]
      have lg := ho.lt g rfl
      have HO := Lib.hid ho
      clear en ho
      go_wp2
      go_ret
      exact ⟨g, cp, rfl, lg, NsOw.of_owns HO.out, hb⟩
/-- So many notes are not behind a minute. -/
def IsUntil (N : Nat → ND) (m : Nat) (t : Int) (k : Nat) : Prop := k ≤ m ∧ (∀ j, j < k → (N j).t ≤ t) ∧ (k < m → t < (N k).t)
theorem until_ex (N : Nat → ND) (m : Nat) (t : Int) : ∃ k, IsUntil N m t k := by
  induction m with
  | zero => exact ⟨0, Nat.le_refl _, fun j hj => absurd hj (by omega), fun h => absurd h (by omega)⟩
  | succ m ih =>
    obtain ⟨k, h1, h2, h3⟩ := ih
    by_cases c : k < m
    · exact ⟨k, by omega, h2, fun _ => h3 c⟩
    · obtain rfl : k = m := by omega
      by_cases d : (N k).t ≤ t
      · exact ⟨k + 1, Nat.le_refl _, fun j hj => by
          by_cases e : j = k
          · subst e; exact d
          · exact h2 j (by omega), fun h => absurd h (by omega)⟩
      · exact ⟨k, by omega, h2, fun _ => by omega⟩
theorem IsUntil.eq {N : Nat → ND} {m : Nat} {t : Int} {k j : Nat} (h : IsUntil N m t k) (hj : j ≤ m) (h1 : ∀ i, i < j → (N i).t ≤ t) (h2 : j < m → t < (N j).t) : j = k := by
  obtain ⟨a1, a2, a3⟩ := h
  rcases Nat.lt_trichotomy j k with c | c | c
  · have := a2 j c; have := h2 (by omega); omega
  · exact c
  · have := h1 k c; have := a3 (by omega); omega
set_option maxRecDepth 100000 in
set_option maxHeartbeats 1000000 in
theorem iUntil (lo R m : Nat) (bs : Nat → Nat) (N : Nat → ND) (t : Int) (q : Nat) (w : World) (h : Rg w lo R m bs N) (hm : m ≤ 30) (hq : IsUntil N m t q) :
    Calls Try.prog 76 #[.pointer (some ⟨R, 0, none⟩), .int .i64 t] w fun e w' => e = .returned (.pointer (some ⟨w.heap.size, 0, none⟩)) ∧ ∃ bs2, Rg w' w.heap.size w.heap.size q bs2 N ∧ Below w.heap.size w w' := by
  obtain ⟨x0, x1, x2⟩ := h.top
  have H := Lib.hid h
  have lR := h.lt.1
  have Q := Lib.hid hq
  have R0 := Lib.hid (Rg.new w N 92)
  clear h hq
  go_enter Try.func76, Try.ntmps76
  go_wp2
  go_loopg [6] m (fun gk p wr => ∃ (k : Nat) (bs2 : Nat → Nat), gk + k = m ∧ p = .pointer (nxt m bs k) ∧ Hid (∀ j, j < k → (N j).t ≤ t) ∧ Rg wr w.heap.size w.heap.size k bs2 N ∧ Below w.heap.size w wr)
  case atStart => exact ⟨0, _, by omega, rfl, fun j hj => absurd hj (by omega), R0.out, by go_grown⟩
  case round =>
    clear x0 x1 x2 R0
    obtain ⟨k, bs2, hk, rfl, hT, hR, hb⟩ := hrel
    have hsz := hb.size
    by_cases hlt : k < m
    · obtain ⟨y0, y1, y2⟩ := H.out.at_ hlt
      have lk := H.out.lt.2 k hlt
      have z0 := (hb.cell (p := ⟨bs k, 0, none⟩) lk).trans y0
      have z1 := (hb.cell (p := ⟨bs k, 1, none⟩) lk).trans y1
      have en : nxt m bs k = some ⟨bs k, 0, none⟩ := nxt_lt hlt
      rw [en]
      have RH := Lib.hid hR
      have HBw := Lib.hid hb
      clear en y0 y1 hR hb
      by_cases hle : (N k).t ≤ t
      · have d1 : decide ((N k).t ≤ t) = true := decide_eq_true hle
        have hT2 : Hid (∀ j, j < k + 1 → (N j).t ≤ t) := fun j hj => by
          by_cases e : j = k
          · subst e; exact hle
          · exact hT.out j (by omega)
        clear hle
        go_wp2_with fail
        refine (iPut w.heap.size w.heap.size k bs2 N (N k).t (N k).s _ RH.out hsz (by omega)).mono ?_
        rintro e w1 ⟨rfl, b1, hb1, hR1, hw1⟩
        have hbl : Below w.heap.size w w1 := HBw.out.trans (hw1.below hsz (fun x hx => by
          rcases hx with rfl | ⟨h0, rfl⟩
          · exact Nat.le_refl _
          · exact (RH.out.2.2.1 (k - 1) (by omega)).1))
        have R1 := Lib.hid (hR1.congr (M := N) (fun i hi => by
          unfold updN
          by_cases c : i = k
          · subst c; rw [if_pos rfl]
          · rw [if_neg c]))
        have z2 := (hbl.cell (p := ⟨bs k, 2, none⟩) lk).trans y2
        have HB1 := Lib.hid hbl
        clear hR1 hw1 hbl RH HBw z0 z1 y2
        go_wp2
        go_roundg (gk - 1)
        case measure => omega
        case rel => exact ⟨k + 1, _, by omega, rfl, hT2, R1.out, HB1.out⟩
      · have d1 : decide ((N k).t ≤ t) = false := decide_eq_false hle
        obtain rfl := Q.out.eq (j := k) (by omega) hT.out (fun _ => by omega)
        clear hle y2
        go_wp2
        go_ret
        exact ⟨rfl, bs2, RH.out, HBw.out⟩
    · obtain rfl : k = m := by omega
      have en : nxt k bs k = none := nxt_ge (Nat.le_refl _)
      rw [en]
      have RH := Lib.hid hR
      have HBw := Lib.hid hb
      obtain rfl := Q.out.eq (j := k) (by omega) hT.out (fun x => absurd x (by omega))
      clear en hR hb
      go_wp2
      go_ret
      exact ⟨rfl, bs2, RH.out, HBw.out⟩
end Go.Proofs.Ytanfhgliilkhjaa
