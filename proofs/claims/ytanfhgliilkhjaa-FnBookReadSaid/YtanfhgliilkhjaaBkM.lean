/-
  Words for memory: a slice of int slices that is read; plain words on codes and books.
-/
import Derived.Test.YtanfhgliilkhjaaK1
import Derived.Laws.BytesArg
import Derived.Lib.Bytes
import Derived.Test.YtanfhgliilkhjaaPathI
import Derived.Deep.AppendLies
import Derived.Deep.RegionHeld3
import Derived.WalkSpells
import Derived.OwnWalk
import Derived.Maps.AppendAt
namespace Go.Proofs.Ytanfhgliilkhjaa
open Go.RowKit Go.Deep
set_option linter.unusedVariables false

theorem Ow.of_owns {w : World} {base e g n cap : Nat} {xs : List Value} {f : Nat → Int} (h : w.ownsRow base e 1 (.slice (some ⟨g, 0, none⟩) n cap) n xs) (hx : ∀ i, i < n → xs[i]? = some (.int .i64 (f i))) : Ow w g (some ⟨g, 0, none⟩) n f := fun hn => by
  have hcell := fun i (hi : i < n) => h.cells (g := g) rfl i _ (hx i hi)
  obtain ⟨hl, h2⟩ := h
  rcases h2 with ⟨hv, _⟩ | ⟨g', cap', cur, hv, hb, hg, r1, r2, r3, r4⟩
  · cases hv
  · simp only [Value.slice.injEq, Option.some.injEq, Addr.mk.injEq, and_true, true_and] at hv
    obtain ⟨rfl, rfl⟩ := hv
    refine ⟨0, rfl, lt_of_block hg, fun i => by simp [World.frozen?, hg], fun i hi => ?_⟩
    have := hcell i hi
    rw [Nat.zero_add]
    have hadd : (⟨g, 0, none⟩ : Addr).add i = ⟨g, i, none⟩ := by unfold Addr.add; split <;> simp_all
    rwa [hadd] at this
theorem owns_cap {w : World} {base e g n cap s : Nat} {xs : List Value} (h : w.ownsRow base e s (.slice (some ⟨g, 0, none⟩) n cap) n xs) : n ≤ cap ∧ cap ≤ maxLen ∧ base ≤ g := by
  obtain ⟨hl, h2⟩ := h
  rcases h2 with ⟨hv, _⟩ | ⟨g', cap', cur, hv, hb, hg, r1, r2, r3, r4⟩
  · cases hv
  · simp only [Value.slice.injEq, Option.some.injEq, Addr.mk.injEq, and_true, true_and] at hv
    obtain ⟨rfl, rfl⟩ := hv
    exact ⟨r1, r2, hb⟩
theorem owns_store {w : World} {base e n s : Nat} {v : Value} {xs : List Value} (h : w.ownsRow base e s v n xs) {a : Addr} (ha : v.ownBlock ≠ some a.block) (u : Value) : (w.setCell a u).ownsRow base e s v n xs :=
  h.kept (row := some a.block) ⟨rfl, rfl, rfl, by simp [World.setCell], fun k hk hne => Go.Deep.blk_setCell_other _ _ _ _ (fun e => hne (by rw [e]))⟩ (.inr ha)
theorem owns_grown {w w' : World} {base e n s r : Nat} {v : Value} {xs : List Value} (h : w.ownsRow base e s v n xs) (hg : w.grownBy w' (some r)) (hr : v.ownBlock ≠ some r) : w'.ownsRow base e s v n xs := h.kept hg (.inr hr)
/-- The numbers f, as cells. -/
def cellsN (n : Nat) (f : Nat → Int) : List Value := (List.range n).map fun i => .int .i64 (f i)
theorem cellsN_len (n : Nat) (f : Nat → Int) : (cellsN n f).length = n := by simp [cellsN]
theorem cellsN_at {n : Nat} {f : Nat → Int} {i : Nat} (h : i < n) : (cellsN n f)[i]? = some (.int .i64 (f i)) := by simp [cellsN, h]
theorem cellsN_one {n : Nat} {f : Nat → Int} : ∀ u ∈ cellsN n f, u.oneCell' = true := by
  intro u hu
  simp only [cellsN, List.mem_map] at hu
  obtain ⟨_, _, rfl⟩ := hu
  rfl
theorem cellsN_of {w : World} {b off n : Nat} {f : Nat → Int} (hc : ∀ i, i < n → w.cell? ⟨b, off + i, none⟩ = some (.int .i64 (f i))) : ∀ j u, (cellsN n f)[j]? = some u → w.cell? ((⟨b, off, none⟩ : Addr).add j) = some u := by
  intro j u hu
  have hj : j < n := by
    rcases Nat.lt_or_ge j n with h | h
    · exact h
    · rw [List.getElem?_eq_none (by rw [cellsN_len]; exact h)] at hu; cases hu
  rw [cellsN_at hj] at hu
  have hadd : (⟨b, off, none⟩ : Addr).add j = ⟨b, off + j, none⟩ := by unfold Addr.add; split <;> simp_all
  rw [hadd, hc j hj, hu]
theorem add_at (b off j : Nat) : (⟨b, off, none⟩ : Addr).add j = ⟨b, off + j, none⟩ := by unfold Addr.add; split <;> simp_all
theorem wp_app {P : Program} {w : World} {ops : Array Oper} {rest : List Oper} {o : Oper} {a : Act} {Q : Exit → Act → World → Prop} (hgd : o.guard = none) (s x : Operand) (t : TypeId)
    (ho : o.op = .call { callee := .builtin .append, args := #[s, x], argTypes := #[t, t] })
    (base : Nat) (e : TypeId) (i : TypeInfo) (z : Value) (size bytes : Nat) (ht : P.underlying t = some (.slice e)) (hi : P.info? e = some i) (hz : i.zero = some z)
    (hsize : i.size = size) (hby : i.bytes = bytes) (hzs : z.cells.size = size) (hsz : 0 < size)
    (g0 c0 n : Nat) (xs : List Value) (hs : a.eval s = .slice (some ⟨g0, 0, none⟩) n c0) (hown : w.ownsRow base e size (.slice (some ⟨g0, 0, none⟩) n c0) n xs)
    (ad : Addr) (m c : Nat) (news : List Value) (hx : a.eval x = .slice (some ad) m c) (hl : news.length = m * size) (hnews : ∀ j u, news[j]? = some u → w.cell? (ad.add j) = some u) (h1 : ∀ u ∈ news, u.oneCell' = true)
    (h63 : n + m ≤ maxLen) (hbytes : (n + m) * bytes ≤ 140737488355328) (hbase : base ≤ w.heap.size) (H : Nat) (hH : w.heap.size = H)
    (h : ∀ g cap w', w'.ownsRow base e size (.slice (some ⟨g, 0, none⟩) (n + m) cap) (n + m) (xs ++ news) → w.grownBy w' (some g0) → (g = g0 ∨ g = H) → g < w'.heap.size → wpList P ops Q rest (a.put o.dst (.slice (some ⟨g, 0, none⟩) (n + m) cap)) w') : wpList P ops Q (o :: rest) a w := by
  refine wpList_append_own_at w hgd s x t ho base e i z size bytes ht hi hz hsize hby hzs hsz _ n xs hs hown ad m c news hx hl hnews h1 h63 hbytes hbase ?_
  intro v' w' ho' hg hnil hat
  have hne : v' ≠ .slice none 0 0 := fun hv => by have := (hnil.1 hv).1; simp at this
  have ho2 := ho'
  obtain ⟨hl', h2⟩ := ho'
  rcases h2 with ⟨hv, _⟩ | ⟨g', cap', cur, hv, hb, hg', _⟩
  · exact absurd hv hne
  · subst hv
    refine h g' cap' w' ho2 hg ?_ (lt_of_block hg')
    subst hH
    simpa [Value.ownBlock] using hat
theorem owns_call {w w' : World} {base e n s : Nat} {v : Value} {xs : List Value} (h : w.ownsRow base e s v n xs) (hb : Below w.heap.size w w') : w'.ownsRow base e s v n xs := by
  refine ⟨h.1, ?_⟩
  rcases h.2 with hn | ⟨g, cap, cur, rfl, hb1, hgg, rest⟩
  · exact .inl hn
  · exact .inr ⟨g, cap, cur, rfl, hb1, (hb.block g (lt_of_block hgg)).trans hgg, rest⟩
/-- A list of numbers. -/
structure LD where
  n : Nat
  f : Nat → Int
/-- The slice (A, m) reads as the lists D; all its memory lies below block B. -/
def SsRn (w : World) (B : Nat) (A : Option Addr) (m : Nat) (D : Nat → LD) : Prop :=
  0 < m → ∃ b off, A = some ⟨b, off, none⟩ ∧ b < B ∧ ∀ i, i < m → ∃ a c, w.cell? ⟨b, off + i, none⟩ = some (.slice a (D i).n c) ∧ Rn w B a (D i).n (D i).f
section
variable {B m : Nat} {w w' : World} {A : Option Addr} {D E : Nat → LD}
theorem SsRn.keep (h : SsRn w B A m D) (hk : ∀ k, k < B → w'.heap[k]? = w.heap[k]?) : SsRn w' B A m D := fun hn => by
  obtain ⟨b, off, e, hb, hc⟩ := h hn
  refine ⟨b, off, e, hb, fun i hi => ?_⟩
  obtain ⟨a, c, h1, h2⟩ := hc i hi
  exact ⟨a, c, (World.cell?_of_block (a := ⟨b, off + i, none⟩) (hk b hb)).trans h1, h2.keep hk⟩
theorem SsRn.up (h : SsRn w B A m D) {C : Nat} (hC : B ≤ C) : SsRn w C A m D := fun hn => by
  obtain ⟨b, off, e, hb, hc⟩ := h hn
  refine ⟨b, off, e, by omega, fun i hi => ?_⟩
  obtain ⟨a, c, h1, h2⟩ := hc i hi
  exact ⟨a, c, h1, h2.up hC⟩
theorem SsRn.below (h : SsRn w B A m D) (hb : Below B w w') : SsRn w' B A m D := h.keep hb.block
theorem SsRn.alloc (h : SsRn w B A m D) (hB : B ≤ w.heap.size) (o : Obj) : SsRn (w.alloc o) B A m D := h.keep fun _ hk => blk_alloc_lt _ _ _ (by omega)
theorem SsRn.top (h : SsRn w w.heap.size A m D) (o : Obj) : SsRn (w.alloc o) (w.alloc o).heap.size A m D := (h.alloc (Nat.le_refl _) _).up (by simp)
theorem SsRn.topd (h : SsRn w w.heap.size A m D) : SsRn w.drew w.drew.heap.size A m D := h
theorem SsRn.topq (h : SsRn w w.heap.size A m D) (q : Nat) : SsRn (w.drewN q) (w.drewN q).heap.size A m D := h
theorem SsRn.topb (h : SsRn w w.heap.size A m D) (hb : Below w.heap.size w w') : SsRn w' w'.heap.size A m D := (h.below hb).up hb.size
theorem SsRn.less (h : SsRn w B A m D) {k : Nat} (hk : k ≤ m) : SsRn w B A k D := fun hn => by
  obtain ⟨b, off, e, hb, hc⟩ := h (by omega)
  exact ⟨b, off, e, hb, fun i hi => hc i (by omega)⟩
theorem SsRn.congr (h : SsRn w B A m D) (e : ∀ i, i < m → D i = E i) : SsRn w B A m E := fun hn => by
  obtain ⟨b, off, e1, hb, hc⟩ := h hn
  exact ⟨b, off, e1, hb, fun i hi => by rw [← e i hi]; exact hc i hi⟩
/-- One list of the slice. -/
theorem SsRn.at_ (h : SsRn w B A m D) {i : Nat} (hi : i < m) : ∃ b off a c n f, A = some ⟨b, off, none⟩ ∧ b < B ∧ D i = ⟨n, f⟩ ∧ w.cell? ⟨b, off + i, none⟩ = some (.slice a n c) ∧ Rn w B a n f := by
  obtain ⟨b, off, e, hb, hc⟩ := h (by omega)
  obtain ⟨a, c, h1, h2⟩ := hc i hi
  exact ⟨b, off, a, c, _, _, e, hb, rfl, h1, h2⟩
end
/-- The first k numbers. -/
def lst (f : Nat → Int) (k : Nat) : List Int := (List.range k).map f
theorem lst_len (f : Nat → Int) (k : Nat) : (lst f k).length = k := by simp [lst]
theorem lst_succ (f : Nat → Int) (k : Nat) : lst f (k + 1) = lst f k ++ [f k] := by simp [lst, List.range_succ]
theorem lst_get {f : Nat → Int} {k i : Nat} (h : i < k) : (lst f k).getD i 0 = f i := by simp [lst, List.getD, h]
/-- Groups of beats. -/
def grpV (n : Nat) (f : Nat → Int) : Prop := ∀ i, i < n → 1 ≤ f i ∧ f i ≤ 6
/-- The text of groups. -/
def txt (n : Nat) (f : Nat → Int) : ByteArray := strOfNums (lst f n)
def codeV (d : LD) : Prop := (1 ≤ d.n ∧ d.n ≤ 5) ∧ grpV d.n d.f
def sameC (d e : LD) : Prop := d.n = e.n ∧ ∀ i, i < d.n → d.f i = e.f i
def bookF (D : Nat → LD) (k : Nat) : Prop := ∀ i, i < k → codeV (D i) ∧ ∀ j, j < i → ¬ sameC (D j) (D i)
def bookV (D : Nat → LD) (m : Nat) : Prop := m ≤ 10 ∧ bookF D m
theorem bookF_zero (D : Nat → LD) : bookF D 0 := fun _ h => absurd h (by omega)
theorem bookF_step {D : Nat → LD} {k : Nat} (h : bookF D k) (h1 : codeV (D k)) (h2 : ∀ j, j < k → ¬ sameC (D j) (D k)) : bookF D (k + 1) := fun i hi => by
  by_cases e : i = k
  · subst e; exact ⟨h1, h2⟩
  · exact h i (by omega)
/-- Bytes of numbers. -/
def u8s (xs : List Int) : List Value := xs.map fun x => .int .u8 x
theorem u8s_len (xs : List Int) : (u8s xs).length = xs.length := by simp [u8s]
theorem u8s_at {f : Nat → Int} {k i : Nat} (h : i < k) : (u8s (lst f k))[i]? = some (.int .u8 (f i)) := by simp [u8s, lst, h]
theorem u8s_succ (f : Nat → Int) (k : Nat) : u8s (lst f k) ++ [.int .u8 (f k)] = u8s (lst f (k + 1)) := by simp [u8s, lst_succ]
theorem u8_inj {a b : Int} (ha : 0 ≤ a ∧ a ≤ 255) (hb : 0 ≤ b ∧ b ≤ 255) (h : UInt8.ofNat a.toNat = UInt8.ofNat b.toNat) : a = b := by
  have := congrArg UInt8.toNat h
  simp only [UInt8.toNat_ofNat'] at this
  omega
/-- Two texts are equal as their groups are. -/
theorem txt_eq {n m : Nat} {f g : Nat → Int} (hf : grpV n f) (hg : grpV m g) : txt n f = txt m g ↔ (n = m ∧ ∀ i, i < n → f i = g i) := by
  constructor
  · intro h
    have hd : (lst f n).map (fun x => UInt8.ofNat x.toNat) = (lst g m).map (fun x => UInt8.ofNat x.toNat) := by
      have := congrArg (fun b : ByteArray => b.data.toList) h
      simpa [txt, strOfNums_data] using this
    have hl : n = m := by have := congrArg List.length hd; simpa [lst] using this
    subst hl
    refine ⟨rfl, fun i hi => ?_⟩
    have h1 := congrArg (fun l : List UInt8 => l[i]?) hd
    simp [lst, hi] at h1
    have a := hf i hi
    have b := hg i hi
    exact u8_inj (by omega) (by omega) h1
  · rintro ⟨rfl, h⟩
    unfold txt lst
    rw [List.map_congr_left fun i hi => h i (List.mem_range.1 hi)]
theorem txt_ne {n m : Nat} {f g : Nat → Int} (h : ¬ txt n f = txt m g) : ((txt n f).toList == (txt m g).toList) = false := beq_eq_false_iff_ne.2 fun e => h (by
  unfold txt at e ⊢
  rw [Lib.strOfNums_toList, Lib.strOfNums_toList] at e
  have e2 : (strOfNums (lst f n)).data.toList = (strOfNums (lst g m)).data.toList := e
  exact ByteArray.ext (Array.toList_inj.1 e2))
/-- The texts of the first codes. -/
def strs (D : Nat → LD) (k : Nat) : List Value := (List.range k).map fun i => .string (txt (D i).n (D i).f)
theorem strs_at {D : Nat → LD} {k i : Nat} (h : i < k) : (strs D k)[i]? = some (.string (txt (D i).n (D i).f)) := by simp [strs, h]
theorem strs_succ (D : Nat → LD) (k : Nat) : strs D k ++ [.string (txt (D k).n (D k).f)] = strs D (k + 1) := by simp [strs, List.range_succ]
theorem bookF_no1 {D : Nat → LD} {m k : Nat} (hk : k < m) (h : ¬ codeV (D k)) : ¬ bookV D m := fun x => h (x.2 k hk).1
theorem bookF_no2 {D : Nat → LD} {m k j : Nat} (hk : k < m) (hj : j < k) (h : sameC (D j) (D k)) : ¬ bookV D m := fun x => (x.2 k hk).2 j hj h
end Go.Proofs.Ytanfhgliilkhjaa
