/-
  Contract of the queue's put.
-/
import Derived.Test.YtejggpejmooegaaTokMQ
import Derived.Test.YtejggpejmooegaaTokMR
import Derived.Maps.AppendAt
import Derived.Deep.RegionLaw
import Derived.OwnWalk
import Derived.Deep.AppendLies
namespace Go.Proofs.Ytejggpejmooegaa
open Go.RowKit Go.Deep
set_option linter.unusedVariables false

/-- append of something, at a step of a region that draws its order; the source may be nil. -/
theorem step_appv {P : Program} {w : World} {ops : Array Oper} {o : Oper} {a : Act} {K : Act → World → Prop} {Q : Exit → Act → World → Prop} {E : Prop} (hw : Region.wanted o (yielded ops a.tmps) = true) (s x : Operand) (t : TypeId)
    (ho : o.op = .call { callee := .builtin .append, args := #[s, x], argTypes := #[t, t] })
    (base : Nat) (e : TypeId) (i : TypeInfo) (z : Value) (size bytes : Nat) (ht : P.underlying t = some (.slice e)) (hi : P.info? e = some i) (hz : i.zero = some z)
    (hsize : i.size = size) (hby : i.bytes = bytes) (hzs : z.cells.size = size) (hsz : 0 < size)
    (sl : Value) (n : Nat) (xs : List Value) (hs : a.eval s = sl) (hown : w.ownsRow base e size sl n xs)
    (ad : Addr) (m c : Nat) (news : List Value) (hx : a.eval x = .slice (some ad) m c) (hm : 0 < m) (hl : news.length = m * size) (hnews : ∀ j u, news[j]? = some u → w.cell? (ad.add j) = some u) (h1 : ∀ u ∈ news, u.oneCell' = true)
    (h63 : n + m ≤ maxLen) (hbytes : (n + m) * bytes ≤ 140737488355328) (hbase : base ≤ w.heap.size) (H : Nat) (hH : w.heap.size = H) (N : Nat) (hN : n + m = N)
    (h : ∀ g cap w', w'.ownsRow base e size (.slice (some ⟨g, 0, none⟩) N cap) N (xs ++ news) → w.grownBy w' sl.ownBlock → (some g = sl.ownBlock ∨ g = H) → g < w'.heap.size → K (a.put o.dst (.slice (some ⟨g, 0, none⟩) N cap)) w') :
    if Region.wanted o (yielded ops a.tmps) = true then Oper.wp P o a w K Q else E := by
  subst hN
  rw [if_pos hw]
  obtain ⟨v', w', hr, ho', hg, hnil, hat⟩ := run_append_own_at (P := P) w base t o.type e i z size bytes ht hi hz hsize hby hzs hsz sl n xs hown ad m c news hl hnews h1 h63 hbytes hbase
  have hne : v' ≠ .slice none 0 0 := fun hv => by have := (hnil.1 hv).2; omega
  have ho2 := ho'
  obtain ⟨hl', h2⟩ := ho'
  rcases h2 with ⟨hv, _⟩ | ⟨g', cap', cur, hv, hb, hg', _⟩
  · exact absurd hv hne
  · subst hv
    unfold Oper.wp execOp
    simp only [ho, resolve, invoke, builtin, Sem.run_bind, Sem.run_pure, Result.andThen_ok, List.map_toArray, List.map_cons, List.map_nil, hs, hx, hr]
    refine h g' cap' w' ho2 hg ?_ (lt_of_block hg')
    subst hH
    simpa [Value.ownBlock] using hat
/-- States as cells. -/
def tkC (l : List Tk) : List Value := l.flatMap fun s => [.int .i64 s.1, .int .i64 s.2.1, .int .i64 s.2.2]
/-- A queue that grows: its row lies in block R, or there is none. -/
def GQ (w : World) (Q : Nat) (R : Option Nat) (l : List Tk) : Prop := ∃ sl, Bx w Q [sl] ∧ w.ownsRow (Q + 1) 27 3 sl l.length (tkC l) ∧ sl.ownBlock = R
/-- All but two blocks stands. -/
def Kp (w w' : World) (Q : Nat) (R : Option Nat) : Prop := (w'.os = w.os ∧ w'.tape = w.tape ∧ w'.output = w.output) ∧ w.heap.size ≤ w'.heap.size ∧ ∀ b, b < w.heap.size → b ≠ Q → some b ≠ R → w'.heap[b]? = w.heap[b]?
theorem tokInfo : (Try.prog.info? 27).map (fun i => (i.zero, i.size, i.bytes)) = some (some (.agg #[.int .i64 0, .int .i64 0, .int .i64 0]), 3, 24) := by kernel_rfl
theorem qp_ne {w : World} {Q T n : Nat} {sl : Value} {xs : List Value} (h : w.ownsRow (Q + 1) T 3 sl n xs) : ∀ g, sl.ownBlock = some g → Q < g := fun g hg => by
  obtain ⟨_, h2⟩ := h
  rcases h2 with ⟨hv, _⟩ | ⟨g', cap', cur, hv, hb, hg', _⟩
  · subst hv; cases hg
  · subst hv
    have : g' = g := by simpa [Value.ownBlock] using hg
    omega
theorem qp_box {W w2 : World} {Q : Nat} {sl u : Value} (h : Bx W Q [u]) (hne : ∀ g, sl.ownBlock = some g → Q < g) (hg : W.grownBy w2 sl.ownBlock) : Bx w2 Q [u] :=
  h.of (hg.block Q h.lt (fun e => by have := hne Q e.symm; omega))
theorem gbT {a b c : World} {row : Option Nat} (h : a.grownBy b row) (k : b.grownBy c row) : a.grownBy c row :=
  ⟨k.os.trans h.os, k.tape.trans h.tape, k.output.trans h.output, Nat.le_trans h.size k.size, fun i hi hne => (k.block i (Nat.lt_of_lt_of_le hi h.size) hne).trans (h.block i hi hne)⟩
theorem qp_end {w w2 : World} {Q n g cap : Nat} {R : Option Nat} {sl : Value} {l : List Tk} {s1 s2 s3 : Int} (hg : w.grownBy w2 sl.ownBlock) (hB : Bx w2 Q [sl]) (hown : w2.ownsRow (Q + 1) 27 3 (.slice (some ⟨g, 0, none⟩) (n + 1) cap) (n + 1) (tkC l ++ [.int .i64 s1, .int .i64 s2, .int .i64 s3]))
    (hat : some g = sl.ownBlock ∨ g = w.heap.size + 2) (hR : sl.ownBlock = R) (hn : l.length = n) :
    ∃ R', GQ (w2.setCell ⟨Q, 0, none⟩ (.slice (some ⟨g, 0, none⟩) (n + 1) cap)) Q R' (l ++ [(s1, s2, s3)]) ∧ (R' = R ∨ ∃ g, R' = some g ∧ w.heap.size ≤ g) ∧ Kp w (w2.setCell ⟨Q, 0, none⟩ (.slice (some ⟨g, 0, none⟩) (n + 1) cap)) Q R := by
  subst hn hR
  have hqg := qp_ne hown g rfl
  refine ⟨some g, ⟨_, hB.set 0 _, ?_, rfl⟩, ?_, ⟨hg.os, hg.tape, hg.output⟩, by simpa [World.setCell] using hg.size, fun b hb hne hr => ?_⟩
  · have e1 : (l ++ [(s1, s2, s3)]).length = l.length + 1 := by simp
    have e2 : tkC (l ++ [(s1, s2, s3)]) = tkC l ++ [.int .i64 s1, .int .i64 s2, .int .i64 s3] := by simp [tkC]
    rw [e1, e2]
    exact hown.kept (row := some Q) ⟨rfl, rfl, rfl, by simp [World.setCell], fun k hk hne => blk_setCell_other _ _ _ _ (fun e => hne (by rw [e]))⟩ (.inr (by simp [Value.ownBlock]; omega))
  · rcases hat with h | h
    · exact .inl h
    · exact .inr ⟨g, rfl, by omega⟩
  · rw [blk_setCell_other _ _ _ _ hne]
    exact hg.block b hb (fun e => hr e)
set_option maxHeartbeats 2000000 in
theorem qPut (Q : Nat) (R : Option Nat) (l : List Tk) (s : Tk) (w : World) (h : GQ w Q R l) (hn : l.length ≤ 2000000000) :
    Calls Try.prog 67 #[.pointer (some ⟨Q, 0, none⟩), tkL s] w fun e w' => e = .returned (.tuple #[]) ∧ ∃ R', GQ w' Q R' (l ++ [s]) ∧ (R' = R ∨ ∃ g, R' = some g ∧ w.heap.size ≤ g) ∧ Kp w w' Q R := by
  obtain ⟨sl, hB, hO, hR⟩ := h
  obtain ⟨i0, ji0, jz0, jz1, jz2⟩ := info_parts tokInfo
  obtain ⟨s1, s2, s3⟩ := s
  have hc := hB.cell (i := 0) (by simp)
  have hf := hB.frz 0
  have hl := hB.lt
  simp only [List.getElem_cons_zero] at hc
  have BX := Lib.hid hB
  obtain ⟨n, hN⟩ : ∃ n, l.length = n := ⟨_, rfl⟩
  rw [hN] at hn hO
  have HN := Lib.hid hN
  have NE := Lib.hid (qp_ne hO)
  have OW := Lib.hid (show ((w.alloc (.cells #[.int .i64 s1, .int .i64 s2, .int .i64 s3] 27)).drew.alloc (.cells #[.int .i64 s1, .int .i64 s2, .int .i64 s3] 27)).ownsRow (Q + 1) 27 3 sl n (tkC l) from (hO.alloc _).alloc _)
  have NW := Lib.hid (World.news_of_block (w := (w.alloc (.cells #[.int .i64 s1, .int .i64 s2, .int .i64 s3] 27)).drew.alloc (.cells #[.int .i64 s1, .int .i64 s2, .int .i64 s3] 27)) (B := w.heap.size + 1) (cs := #[.int .i64 s1, .int .i64 s2, .int .i64 s3]) (t := 27) (fr := (0, 0)) (by have h9 := blk_alloc_new (w.alloc (.cells #[.int .i64 s1, .int .i64 s2, .int .i64 s3] 27)).drew (.cells #[.int .i64 s1, .int .i64 s2, .int .i64 s3] 27); simpa using h9))
  have BXW := Lib.hid (show Bx ((w.alloc (.cells #[.int .i64 s1, .int .i64 s2, .int .i64 s3] 27)).drew.alloc (.cells #[.int .i64 s1, .int .i64 s2, .int .i64 s3] 27)) Q [sl] from (hB.alloc _).alloc _)
  have HGW := Lib.hid (show w.grownBy ((w.alloc (.cells #[.int .i64 s1, .int .i64 s2, .int .i64 s3] 27)).drew.alloc (.cells #[.int .i64 s1, .int .i64 s2, .int .i64 s3] 27)) sl.ownBlock from gb_alloc (gb_drew (gb_alloc (gb_refl w _) _)) _)
  have HRR := Lib.hid hR
  clear hN hB hO hR
  unfold tkL
  go_enter Try.func67, Try.ntmps67
  go_wp2_with fail
  go_region_law ((refine step_appv (by rfl) _ _ _ (by rfl) (Q + 1) 27 i0 (.agg #[.int .i64 0, .int .i64 0, .int .i64 0]) 3 24 Try.underlying71 ji0 jz0 jz1 jz2 (by rfl) (by omega) sl n (tkC l) (by rfl) OW.out ⟨w.heap.size + 1, 0, none⟩ 1 1 [.int .i64 s1, .int .i64 s2, .int .i64 s3] (by rfl) (by omega) (by rfl) NW.out (by simp [Value.oneCell']) (by unfold maxLen; omega) (by omega) (by simp; omega) (w.heap.size + 2) (by simp) (n + 1) rfl ?_; intro g cap w2 hown hg hat hlt; have B2 := qp_box BXW.out NE.out hg; have c2 := B2.cell (i := 0) (by simp); have f2 := B2.frz 0; simp only [List.getElem_cons_zero] at c2; have BX2 := Lib.hid B2; have OW2 := Lib.hid hown; have HG2 := Lib.hid (gbT HGW.out hg); have HAT := Lib.hid hat; clear B2 hown hg hat))
  all_goals
    have HE := Lib.hid (qp_end HG2.out BX2.out OW2.out HAT.out HRR.out HN.out)
    clear OW2 HG2 HAT BX2 OW NW NE BXW HGW
    refine bodyPost_end (by simp [results, Try.results67, go_sem]; rfl) rfl ?_
    exact ⟨rfl, HE.out⟩
end Go.Proofs.Ytejggpejmooegaa
