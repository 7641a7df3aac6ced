/-
  Contracts of RegisterUntil, the reference's and the program's.
-/
import Derived.Test.YtanfhgliilkhjaaRegE
import Derived.Maps.AppendAt
namespace Go.Proofs.Ytanfhgliilkhjaa
open Go.RowKit Go.Deep
set_option linter.unusedVariables false

/-- append, at a source that may be empty. -/
theorem wp_app {P : Program} {w : World} {ops : Array Oper} {rest : List Oper} {o : Oper} {a : Act} {Q : Exit → Act → World → Prop} (hgd : o.guard = none) (s x : Operand) (t : TypeId)
    (ho : o.op = .call { callee := .builtin .append, args := #[s, x], argTypes := #[t, t] })
    (base : Nat) (e : TypeId) (i : TypeInfo) (z : Value) (size bytes : Nat) (ht : P.underlying t = some (.slice e)) (hi : P.info? e = some i) (hz : i.zero = some z)
    (hsize : i.size = size) (hby : i.bytes = bytes) (hzs : z.cells.size = size) (hsz : 0 < size)
    (g0 c0 n : Nat) (xs : List Value) (hs : a.eval s = .slice (some ⟨g0, 0, none⟩) n c0) (hown : w.ownsRow base e size (.slice (some ⟨g0, 0, none⟩) n c0) n xs)
    (ad : Addr) (m c : Nat) (news : List Value) (hx : a.eval x = .slice (some ad) m c) (hl : news.length = m * size) (hnews : ∀ j u, news[j]? = some u → w.cell? (ad.add j) = some u) (h1 : ∀ u ∈ news, u.oneCell' = true)
    (h63 : n + m ≤ maxLen) (hbytes : (n + m) * bytes ≤ 140737488355328) (hbase : base ≤ w.heap.size) (H : Nat) (hH : w.heap.size = H)
    (h : ∀ g cap w', w'.ownsRow base e size (.slice (some ⟨g, 0, none⟩) (n + m) cap) (n + m) (xs ++ news) → w.grownBy w' (some g0) → (g = g0 ∨ g = H) → g < w'.heap.size → wpList P ops Q rest (a.put o.dst (.slice (some ⟨g, 0, none⟩) (n + m) cap)) w') : wpList P ops Q (o :: rest) a w := by
  refine wpList_append_own_at w hgd s x t ho base e i z size bytes ht hi hz hsize hby hzs hsz _ n xs hs hown ad m c news hx hl hnews h1 h63 hbytes hbase ?_
  intro v' w' ho' hg hnil hat
  have hne : v' ≠ .slice none 0 0 := fun hv => by have := (hnil.1 hv).1; simp at this
  have ho2 := ho'
  obtain ⟨hl', h2⟩ := ho'
  rcases h2 with ⟨hv, _⟩ | ⟨g', cap', cur, hv, hb, hg', _⟩
  · exact absurd hv hne
  · subst hv
    refine h g' cap' w' ho2 hg ?_ (lt_of_block hg')
    subst hH
    simpa [Value.ownBlock] using hat
theorem add_at (b off j : Nat) : (⟨b, off, none⟩ : Addr).add j = ⟨b, off + j, none⟩ := by unfold Addr.add; split <;> simp_all
theorem ncells_news {w : World} {b off n : Nat} {N : Nat → ND} (hc : ∀ i, i < n → w.cell? ⟨b, off + i * 2, none⟩ = some (.int .i64 (N i).t) ∧ w.cell? ⟨b, off + i * 2 + 1, none⟩ = some (.string (N i).s)) : ∀ j u, (ncells N n)[j]? = some u → w.cell? ((⟨b, off, none⟩ : Addr).add j) = some u := by
  intro j u hu
  have hl := ncells_len N n
  have hj : j < n * 2 := by
    rcases Nat.lt_or_ge j (n * 2) with h | h
    · exact h
    · rw [List.getElem?_eq_none (by omega)] at hu; cases hu
  rw [add_at]
  obtain ⟨i, hi⟩ : ∃ i, j = i * 2 ∨ j = i * 2 + 1 := ⟨j / 2, by omega⟩
  rcases hi with rfl | rfl
  · obtain ⟨h0, h1⟩ := hc i (by omega)
    obtain ⟨e0, e1⟩ := ncells_at N (k := n) (i := i) (by omega)
    rw [e0] at hu; rw [← hu]; exact h0
  · obtain ⟨h0, h1⟩ := hc i (by omega)
    obtain ⟨e0, e1⟩ := ncells_at N (k := n) (i := i) (by omega)
    rw [e1] at hu; rw [← hu, ← Nat.add_assoc]; exact h1
theorem NsRn.news {w : World} {B g off n : Nat} {N : Nat → ND} (h : NsRn w B (some ⟨g, off, none⟩) n N) : ∀ j u, (ncells N n)[j]? = some u → w.cell? ⟨g, off + j, none⟩ = some u := by
  intro j u hu
  rw [← add_at]
  refine ncells_news (fun i hi => ?_) j u hu
  obtain ⟨b', o', e, hb', hcc⟩ := h (by omega)
  simp only [Option.some.injEq, Addr.mk.injEq, and_true] at e
  obtain ⟨rfl, rfl⟩ := e
  exact hcc i hi
/-- A slice of notes and a yes or a no. -/
def NotesOut (w : World) (ok : Bool) (q : Nat) (N : Nat → ND) (e : Ending) (w' : World) : Prop :=
  ∃ (A : Option Addr) (c : Nat), e = .returned (.tuple #[.slice A q c, .bool ok]) ∧ (∃ b, (0 < q → w.heap.size ≤ b ∧ b < w'.heap.size) ∧ NsOw w' b A q N) ∧ Below w.heap.size w w'
theorem NotesOut.none_ {w w' : World} (N : Nat → ND) {A : Option Addr} {c : Nat} (hb : Below w.heap.size w w') : NotesOut w false 0 N (.returned (.tuple #[.slice A 0 c, .bool false])) w' :=
  ⟨A, c, rfl, ⟨0, fun h => absurd h (by omega), NsOw.nil _ _ _ _⟩, hb⟩
set_option maxRecDepth 100000 in
set_option maxHeartbeats 2000000 in
theorem sUntil (g m c : Nat) (N : Nat → ND) (t : Int) (q : Nat) (w : World) (h : NsRn w w.heap.size (some ⟨g, 0, none⟩) m N) (hm : m ≤ 1048576) (hc : m ≤ c) (hq : IsUntil N m t q) :
    Calls Try.prog 75 #[.slice (some ⟨g, 0, none⟩) m c, .int .i64 t] w (NotesRes w q N) := by
  obtain ⟨i0, ji0, jz0, jz1, jz2⟩ := info_parts noteInfo
  have J := Lib.hid (And.intro ji0 (And.intro jz0 (And.intro jz1 jz2)))
  have H := Lib.hid h
  have Q := Lib.hid hq
  clear h hq ji0 jz0 jz1 jz2
  go_enter Try.func75, Try.ntmps75
  go_wp2
  go_loop [5] (fun i => ∃ k : Nat, k ≤ m ∧ i = .int .i64 k ∧ Hid (∀ j, j < k → (N j).t ≤ t)) (fun i => m - (intOf i).toNat)
  case atStart => exact ⟨0, Nat.zero_le _, rfl, fun j hj => absurd hj (by omega)⟩
  case round =>
    obtain ⟨k, hk, rfl, hT⟩ := hrel
    by_cases hlt : k < m
    · obtain ⟨b, off, e, hbB, hcc⟩ := H.out (by omega)
      simp only [Option.some.injEq, Addr.mk.injEq, and_true] at e
      obtain ⟨rfl, rfl⟩ := e
      obtain ⟨x0, x1⟩ := hcc k hlt
      simp only [Nat.zero_add] at x0
      have hk0 : (0 : Int) ≤ (k : Int) := by omega
      have hk1 : (k : Int) < (m : Int) := by omega
      clear hcc x1
      by_cases hle : (N k).t ≤ t
      · have d1 : decide ((N k).t ≤ t) = true := decide_eq_true hle
        have hT2 : Hid (∀ j, j < k + 1 → (N j).t ≤ t) := fun j hj => by
          by_cases e : j = k
          · subst e; exact hle
          · exact hT.out j (by omega)
        clear hle
        go_wp2
        go_round
        case rel => exact ⟨k + 1, by omega, by go_num, hT2⟩
        case measure => simp [intOf]; omega
      · have d1 : decide ((N k).t ≤ t) = false := decide_eq_false hle
        obtain rfl := Q.out.eq (j := k) (by omega) hT.out (fun _ => by omega)
        clear hle
        have HC := Lib.hid (H.out.less (show k ≤ m by omega))
        have k0 : (0 : Int) ≤ (k : Int) := by omega
        have k1 : (k : Int) ≤ (c : Int) := by omega
        have k2 : k ≤ c := by omega
        obtain ⟨ji0, jz0, jz1, jz2⟩ := J.out
        go_wp2_with (at_builtin; refine wp_app rfl _ _ _ rfl w.heap.size 71 i0 (.agg #[.int .i64 0, .string ⟨#[]⟩]) 2 24 Try.underlying36 ji0 jz0 jz1 jz2 rfl (by omega) w.heap.size 0 0 [] rfl (World.ownsRow_made (base := w.heap.size) (size := 2) (e := 71) w #[] 0 (Nat.le_refl _) (by unfold maxLen; omega) (by simp)) ⟨g, 0, none⟩ k c (ncells N k) rfl (ncells_len N k) ?c2 (ncells_one N k) ?c3 ?c4 ?c5 (w.heap.size + 1) ?c6 ?_)
        case c2 => first | simpa [add_at] using HC.out.news | simpa [add_at] using (HC.out.alloc (Nat.le_refl _) (.cells #[] 71)).news
        case c3 => unfold maxLen; omega
        case c4 => omega
        try case c5 => simp
        try case c6 => simp
        intro g1 k1 w1 hown1 hg1 hat1 hlt1
        (try simp only [Nat.zero_add, List.nil_append] at hown1)
        have hb1 : Below w.heap.size w w1 := (show Below w.heap.size w (w.alloc (.cells #[] 71)) by go_grown).grown hg1 (by simp) (fun k e => by injection e with e; omega)
        have HO := Lib.hid hown1
        have hgl := hown1.lt g1 rfl
        clear hown1 hg1 HC
        go_wp2_with fail
        go_ret
        exact ⟨g1, k1, rfl, hgl, NsOw.of_owns HO.out, hb1⟩
    · obtain rfl : k = m := by omega
      obtain rfl := Q.out.eq (j := k) (by omega) hT.out (fun x => absurd x (by omega))
      obtain ⟨m, hm0⟩ : ∃ m, m = k := ⟨_, rfl⟩
      have H : Hid (NsRn w w.heap.size (some ⟨g, 0, none⟩) m N) := by rw [hm0]; exact H
      have hk : k ≤ m := by omega
      clear hm0
      have HC := Lib.hid (H.out.less (show k ≤ m by omega))
      have k0 : (0 : Int) ≤ (k : Int) := by omega
      have k1 : (k : Int) ≤ (c : Int) := by omega
      have k2 : k ≤ c := by omega
      obtain ⟨ji0, jz0, jz1, jz2⟩ := J.out
      go_wp2_with (at_builtin; refine wp_app rfl _ _ _ rfl w.heap.size 71 i0 (.agg #[.int .i64 0, .string ⟨#[]⟩]) 2 24 Try.underlying36 ji0 jz0 jz1 jz2 rfl (by omega) w.heap.size 0 0 [] rfl (World.ownsRow_made (base := w.heap.size) (size := 2) (e := 71) w #[] 0 (Nat.le_refl _) (by unfold maxLen; omega) (by simp)) ⟨g, 0, none⟩ k c (ncells N k) rfl (ncells_len N k) ?c2 (ncells_one N k) ?c3 ?c4 ?c5 (w.heap.size + 1) ?c6 ?_)
      case c2 => first | simpa [add_at] using HC.out.news | simpa [add_at] using (HC.out.alloc (Nat.le_refl _) (.cells #[] 71)).news
      case c3 => unfold maxLen; omega
      case c4 => omega
      try case c5 => simp
      try case c6 => simp
      intro g1 k1 w1 hown1 hg1 hat1 hlt1
      (try simp only [Nat.zero_add, List.nil_append] at hown1)
      have hb1 : Below w.heap.size w w1 := (show Below w.heap.size w (w.alloc (.cells #[] 71)) by go_grown).grown hg1 (by simp) (fun k e => by injection e with e; omega)
      have HO := Lib.hid hown1
      have hgl := hown1.lt g1 rfl
      clear hown1 hg1 HC
      go_wp2_with fail
      go_ret
      exact ⟨g1, k1, rfl, hgl, NsOw.of_owns HO.out, hb1⟩
theorem NotesRes.out {w w0 w' : World} {q : Nat} {N : Nat → ND} {g c : Nat} (hb0 : Below w0.heap.size w0 w) (hg : w.heap.size ≤ g ∧ g < w'.heap.size) (ho : NsOw w' g (some ⟨g, 0, none⟩) q N) (hb : Below w.heap.size w w') : NotesOut w0 true q N (.returned (.tuple #[.slice (some ⟨g, 0, none⟩) q c, .bool true])) w' :=
  ⟨_, c, rfl, ⟨g, fun _ => ⟨by have := hb0.size; omega, hg.2⟩, ho⟩, bl hb0 (Nat.le_refl _) hb⟩
set_option maxHeartbeats 1000000 in
theorem sRegUntil_yes (g m c : Nat) (N : Nat → ND) (t : Int) (q : Nat) (w : World) (h : NsRn w w.heap.size (some ⟨g, 0, none⟩) m N) (hc : m ≤ c) (hv : regV N m = true) (hq : IsUntil N m t q) :
    Calls Try.prog 39 #[.slice (some ⟨g, 0, none⟩) m c, .int .i64 t] w (NotesOut w true q N) := by
  have hm := (regV_iff.1 hv).1
  have H := Lib.hid h
  have V := Lib.hid hv
  have Q := Lib.hid hq
  clear h hv hq
  go_enter Try.func39, Try.ntmps39
  go_wp2_with fail
  refine (sRegV _ m c N _ H.out (by omega)).mono ?_
  rintro e w1 ⟨rfl, rfl⟩
  rw [V.out]
  go_wp2_with fail
  refine (sUntil g m c N t q _ H.out (by omega) hc Q.out).mono ?_
  rintro e w1 ⟨g1, c1, rfl, hg1, ho, hb⟩
  have HO := Lib.hid ho
  clear ho
  go_wp2
  go_ret2
  exact NotesRes.out (Below.refl _ _) hg1 HO.out hb
set_option maxHeartbeats 1000000 in
theorem sRegUntil_no (A : Option Addr) (m c : Nat) (N : Nat → ND) (t : Int) (w : World) (h : NsRn w w.heap.size A m N) (hm : m ≤ 1048576) (hv : regV N m = false) :
    Calls Try.prog 39 #[.slice A m c, .int .i64 t] w (NotesOut w false 0 N) := by
  have H := Lib.hid h
  have V := Lib.hid hv
  clear h hv
  go_enter Try.func39, Try.ntmps39
  go_wp2_with fail
  refine (sRegV _ m c N _ H.out (by omega)).mono ?_
  rintro e w1 ⟨rfl, rfl⟩
  rw [V.out]
  go_wp2
  go_ret2
  exact NotesOut.none_ N (by go_grown)
set_option maxHeartbeats 1000000 in
theorem iRegUntil_yes (A : Option Addr) (m c : Nat) (N : Nat → ND) (t : Int) (q : Nat) (w : World) (h : NsRn w w.heap.size A m N) (hv : regV N m = true) (hq : IsUntil N m t q) :
    Calls Try.prog 40 #[.slice A m c, .int .i64 t] w (NotesOut w true q N) := by
  have hm := (regV_iff.1 hv).1
  have H := Lib.hid h
  have V := Lib.hid hv
  have Q := Lib.hid hq
  have hqm := hq.1
  clear h hv hq
  go_enter Try.func40, Try.ntmps40
  go_wp2_with fail
  refine (iRegOf true A m c N _ H.out (by omega) V.out).mono ?_
  rintro e w1 ⟨bs, rfl, hR, hb1⟩
  have HR := Lib.hid (hR hm)
  clear hR
  go_wp2_with fail
  refine (iUntil w.heap.size w.heap.size m bs N t q _ HR.out hm Q.out).mono ?_
  rintro e w2 ⟨rfl, bs2, hR2, hb2⟩
  have HR2 := Lib.hid hR2
  have hb2 := bl hb1 (Nat.le_refl _) hb2
  clear hR2 hb1
  go_wp2_with fail
  refine (iList _ _ q bs2 N _ HR2.out (by omega)).mono ?_
  rintro e w3 ⟨g1, c1, rfl, hg1, ho, hb⟩
  have HO := Lib.hid ho
  clear ho
  go_wp2
  go_ret2
  exact NotesRes.out hb2 hg1 HO.out hb
set_option maxHeartbeats 1000000 in
theorem iRegUntil_no (A : Option Addr) (m c : Nat) (N : Nat → ND) (t : Int) (w : World) (h : NsRn w w.heap.size A m N) (hm : m ≤ 1048576) (hv : regV N m = false) :
    Calls Try.prog 40 #[.slice A m c, .int .i64 t] w (NotesOut w false 0 N) := by
  have H := Lib.hid h
  have V := Lib.hid hv
  clear h hv
  go_enter Try.func40, Try.ntmps40
  go_wp2_with fail
  refine (iRegOf false A m c N _ H.out (by omega) V.out).mono ?_
  rintro e w1 ⟨bs, rfl, hR, hb1⟩
  have hs1 := hb1.size
  clear hR
  go_wp2
  go_ret2
  exact NotesOut.none_ N (by go_grown)
/-- What both RegisterUntil give. -/
theorem d_RegUntil (m : Nat) (N : Nat → ND) (t : Int) (hm : m ≤ 1048576) : ∃ (ok : Bool) (q : Nat), q ≤ 60 ∧
    (∀ (W : World) (g d : Nat), m ≤ d → NsRn W W.heap.size (some ⟨g, 0, none⟩) m N → Calls Try.prog 39 #[.slice (some ⟨g, 0, none⟩) m d, .int .i64 t] W (NotesOut W ok q N)) ∧
    (∀ (W : World) (g d : Nat), m ≤ d → NsRn W W.heap.size (some ⟨g, 0, none⟩) m N → Calls Try.prog 40 #[.slice (some ⟨g, 0, none⟩) m d, .int .i64 t] W (NotesOut W ok q N)) := by
  cases hv : regV N m
  · exact ⟨false, 0, by omega, fun W g d hd h => sRegUntil_no _ m d N t W h hm hv, fun W g d hd h => iRegUntil_no _ m d N t W h hm hv⟩
  · obtain ⟨q, hq⟩ := until_ex N m t
    have := (regV_iff.1 hv).1
    have := hq.1
    exact ⟨true, q, by omega, fun W g d hd h => sRegUntil_yes g m d N t q W h hd hv hq, fun W g d hd h => iRegUntil_yes _ m d N t q W h hv hq⟩
end Go.Proofs.Ytanfhgliilkhjaa
