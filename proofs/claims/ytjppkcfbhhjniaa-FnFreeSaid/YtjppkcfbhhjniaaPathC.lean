/-
  Contracts: slices.Clone at []int, at a slice that is not empty; the copy of a path.
-/
import Derived.Test.YtjppkcfbhhjniaaPathH
import Derived.Deep.AppendLies
import Derived.Deep.RegionHeld3
import Derived.WalkSpells
import Derived.OwnWalk
namespace Go.Proofs.Ytjppkcfbhhjniaa
open Go.RowKit
set_option linter.unusedVariables false

theorem Ow.of_owns {w : World} {base e g n cap : Nat} {xs : List Value} {f : Nat → Int} (h : w.ownsRow base e 1 (.slice (some ⟨g, 0, none⟩) n cap) n xs) (hx : ∀ i, i < n → xs[i]? = some (.int .i64 (f i))) : Ow w g (some ⟨g, 0, none⟩) n f := fun hn => by
  have hcell := fun i (hi : i < n) => h.cells (g := g) rfl i _ (hx i hi)
  obtain ⟨hl, h2⟩ := h
  rcases h2 with ⟨hv, _⟩ | ⟨g', cap', cur, hv, hb, hg, r1, r2, r3, r4⟩
  · cases hv
  · simp only [Value.slice.injEq, Option.some.injEq, Addr.mk.injEq, and_true, true_and] at hv
    obtain ⟨rfl, rfl⟩ := hv
    refine ⟨0, rfl, lt_of_block hg, fun i => by simp [World.frozen?, hg], fun i hi => ?_⟩
    have := hcell i hi
    rw [Nat.zero_add]
    have hadd : (⟨g, 0, none⟩ : Addr).add i = ⟨g, i, none⟩ := by unfold Addr.add; split <;> simp_all
    rwa [hadd] at this
theorem owns_cap {w : World} {base e g n cap s : Nat} {xs : List Value} (h : w.ownsRow base e s (.slice (some ⟨g, 0, none⟩) n cap) n xs) : n ≤ cap ∧ cap ≤ maxLen ∧ base ≤ g := by
  obtain ⟨hl, h2⟩ := h
  rcases h2 with ⟨hv, _⟩ | ⟨g', cap', cur, hv, hb, hg, r1, r2, r3, r4⟩
  · cases hv
  · simp only [Value.slice.injEq, Option.some.injEq, Addr.mk.injEq, and_true, true_and] at hv
    obtain ⟨rfl, rfl⟩ := hv
    exact ⟨r1, r2, hb⟩
theorem owns_store {w : World} {base e n s : Nat} {v : Value} {xs : List Value} (h : w.ownsRow base e s v n xs) {a : Addr} (ha : v.ownBlock ≠ some a.block) (u : Value) : (w.setCell a u).ownsRow base e s v n xs :=
  h.kept (row := some a.block) ⟨rfl, rfl, rfl, by simp [World.setCell], fun k hk hne => Go.Deep.blk_setCell_other _ _ _ _ (fun e => hne (by rw [e]))⟩ (.inr ha)
theorem owns_grown {w w' : World} {base e n s r : Nat} {v : Value} {xs : List Value} (h : w.ownsRow base e s v n xs) (hg : w.grownBy w' (some r)) (hr : v.ownBlock ≠ some r) : w'.ownsRow base e s v n xs := h.kept hg (.inr hr)
/-- The numbers f, as cells. -/
def cellsN (n : Nat) (f : Nat → Int) : List Value := (List.range n).map fun i => .int .i64 (f i)
theorem cellsN_len (n : Nat) (f : Nat → Int) : (cellsN n f).length = n := by simp [cellsN]
theorem cellsN_at {n : Nat} {f : Nat → Int} {i : Nat} (h : i < n) : (cellsN n f)[i]? = some (.int .i64 (f i)) := by simp [cellsN, h]
theorem cellsN_one {n : Nat} {f : Nat → Int} : ∀ u ∈ cellsN n f, u.oneCell' = true := by
  intro u hu
  simp only [cellsN, List.mem_map] at hu
  obtain ⟨_, _, rfl⟩ := hu
  rfl
theorem cellsN_of {w : World} {b off n : Nat} {f : Nat → Int} (hc : ∀ i, i < n → w.cell? ⟨b, off + i, none⟩ = some (.int .i64 (f i))) : ∀ j u, (cellsN n f)[j]? = some u → w.cell? ((⟨b, off, none⟩ : Addr).add j) = some u := by
  intro j u hu
  have hj : j < n := by
    rcases Nat.lt_or_ge j n with h | h
    · exact h
    · rw [List.getElem?_eq_none (by rw [cellsN_len]; exact h)] at hu; cases hu
  rw [cellsN_at hj] at hu
  have hadd : (⟨b, off, none⟩ : Addr).add j = ⟨b, off + j, none⟩ := by unfold Addr.add; split <;> simp_all
  rw [hadd, hc j hj, hu]
/-- A slice has been cloned. -/
def CloneP (w : World) (n : Nat) (f : Nat → Int) (e : Ending) (w' : World) : Prop :=
  ∃ g cap : Nat, e = .returned (.slice (some ⟨g, 0, none⟩) n cap) ∧ w.heap.size ≤ g ∧ g < w'.heap.size ∧ Ow w' g (some ⟨g, 0, none⟩) n f ∧ Below w.heap.size w w'
set_option maxHeartbeats 1000000 in
theorem clone_any (A : Option Addr) (n c : Nat) (f : Nat → Int) (w : World) (h : Rn w w.heap.size A n f) (hn : 0 < n) (hn2 : n ≤ 1048576) :
    Calls Try.prog 76 #[.slice A n c] w (CloneP w n f) := by
  obtain ⟨i0, hi0, hz0, hz1, hz2⟩ := info_parts intInfo
  obtain ⟨b, off, rfl, hb, hc⟩ := h hn
  have hown : (w.alloc (.cells #[] 3)).ownsRow w.heap.size 3 1 (.slice (some ⟨w.heap.size, 0, none⟩) 0 0) 0 [] := World.ownsRow_made w #[] 0 (Nat.le_refl _) (by unfold maxLen; omega) (by simp)
  have hnews : ∀ j u, (cellsN n f)[j]? = some u → (w.alloc (.cells #[] 3)).cell? ((⟨b, off, none⟩ : Addr).add j) = some u := cellsN_of (fun i hi => (World.cell?_alloc_lt w _ ⟨b, off + i, none⟩ hb).trans (hc i hi))
  have HO := Lib.hid hown
  have HN := Lib.hid hnews
  have hnil := fun W : World => Lib.run_eql_slice_nil (P := Try.prog) W 27 3 (some ⟨b, off, none⟩) n c 0 0 Try.underlying27
  clear hown hnews hc h
  go_enter Try.func76, Try.ntmps76
  go_wp2_with (at_builtin; refine wpList_append_lies _ rfl _ _ _ rfl w.heap.size 3 i0 (.int .i64 0) 1 8 Try.underlying27 hi0 hz0 hz1 hz2 rfl (by omega) _ 0 [] rfl HO.out ⟨b, off, none⟩ n c (cellsN n f) rfl ?c1 HN.out cellsN_one hn ?c2 ?c3 ?c4 (w.heap.size + 1) ?c5 ?_)
  case c1 => rw [cellsN_len]; omega
  case c2 => unfold maxLen; omega
  case c3 => omega
  case c4 => simp
  case c5 => simp
  intro g cap w1 hown hg hat hlt
  have hO := Ow.of_owns hown (fun i hi => cellsN_at hi)
  have hbel : Below w.heap.size w w1 := (show Below w.heap.size w (w.alloc (.cells #[] 3)) by go_grown).grown hg (by simp) (fun k e => by simp [Value.ownBlock] at e; omega)
  have hge := (owns_cap hown).2.2
  clear hg hat hown HO HN
  have HX := Lib.hid hO
  clear hO
  go_wp2
  go_ret
  exact ⟨g, cap, rfl, hge, hlt, HX.out, hbel⟩
/-- A path has been copied. -/
def CopyP (w : World) (n1 : Nat) (f1 : Nat → Int) (n2 : Nat) (f2 : Nat → Int) (e : Ending) (w' : World) : Prop :=
  ∃ g1 k1 g2 k2 : Nat, e = .returned (.agg #[.slice (some ⟨g1, 0, none⟩) n1 k1, .slice (some ⟨g2, 0, none⟩) n2 k2]) ∧ (w.heap.size ≤ g1 ∧ g1 < w'.heap.size) ∧ (w.heap.size ≤ g2 ∧ g2 < w'.heap.size) ∧ g1 ≠ g2 ∧ Ow w' g1 (some ⟨g1, 0, none⟩) n1 f1 ∧ Ow w' g2 (some ⟨g2, 0, none⟩) n2 f2 ∧ Below w.heap.size w w'
theorem OwP.mk {w : World} {lo hi g1 g2 n1 n2 : Nat} {a1 a2 : Option Addr} {f1 f2 : Nat → Int} (h1 : lo ≤ g1 ∧ g1 < hi) (h2 : lo ≤ g2 ∧ g2 < hi) (hne : g1 ≠ g2) (o1 : Ow w g1 a1 n1 f1) (o2 : Ow w g2 a2 n2 f2) : OwP w lo hi a1 n1 f1 a2 n2 f2 :=
  ⟨g1, g2, fun _ => h1, fun _ => h2, hne, o1, o2⟩
set_option maxHeartbeats 2000000 in
theorem copied_any (b off : Nat) (a1 a2 : Option Addr) (n1 c1 n2 c2 : Nat) (f1 f2 : Nat → Int) (w : World) (h0 : w.cell? ⟨b, off, none⟩ = some (.slice a1 n1 c1)) (h1 : w.cell? ⟨b, off + 1, none⟩ = some (.slice a2 n2 c2))
    (hb : b < w.heap.size) (r1 : Rn w w.heap.size a1 n1 f1) (r2 : Rn w w.heap.size a2 n2 f2) (hn1 : 0 < n1 ∧ n1 ≤ 1048576) (hn2 : 0 < n2 ∧ n2 ≤ 1048576) :
    Calls Try.prog 57 #[.pointer (some ⟨b, off, none⟩)] w (CopyP w n1 f1 n2 f2) := by
  have e0 := (World.cell?_alloc_lt w (.cells #[.slice none 0 0, .slice none 0 0] 31) ⟨b, off, none⟩ hb).trans h0
  have e1 := (World.cell?_alloc_lt w (.cells #[.slice none 0 0, .slice none 0 0] 31) ⟨b, off + 1, none⟩ hb).trans h1
  have R1 := Lib.hid (r1.top (.cells #[.slice none 0 0, .slice none 0 0] 31))
  have R2 := Lib.hid (r2.top (.cells #[.slice none 0 0, .slice none 0 0] 31))
  have hbz : Below w.heap.size w (w.alloc (.cells #[.slice none 0 0, .slice none 0 0] 31)) := by go_grown
  have hx := Bx.new w [.slice none 0 0, .slice none 0 0] 31
  clear r1 r2 h0 h1
  go_enter Try.func57, Try.ntmps57
  go_wp2_with fail
  generalize hW : w.alloc (.cells #[.slice none 0 0, .slice none 0 0] 31) = W at *
  have hsz : w.heap.size < W.heap.size := by rw [← hW]; simp
  have hbW : b < W.heap.size := by omega
  have hne1 : b ≠ w.heap.size := by omega
  have hne2 : w.heap.size ≠ b := by omega
  clear hW
  have x0 := hx.cell (i := 0) (by simp)
  have x1 := hx.cell (i := 1) (by simp)
  have y0 := hx.frz 0
  have y1 := hx.frz 1
  simp only [List.getElem_cons_zero, List.getElem_cons_succ] at x0 x1
  clear hx
  go_region_held3 (fun V => V.cell? ⟨b, off, none⟩ = some (.slice a1 n1 c1) ∧ V.cell? ⟨b, off + 1, none⟩ = some (.slice a2 n2 c2)) (go_keep)
    (first
      | (go_at_call_of 76 (Value.slice a1 n1 c1); refine (clone_any a1 n1 c1 f1 _ ?_ hn1.1 hn1.2).mono ?_; (first | exact R1.out | exact R1.out.topb hb2 ); rintro e w1 ⟨g1, k1, rfl, hge1, hlt1, o1, hb1⟩; (first | (have hb1 := undrew hb1; have hge1 : W.heap.size ≤ g1 := hge1) | (have o2 := o2.call hb1)); have hs1 := hb1.size; have hq1 := hb1.cell (p := ⟨b, off, none⟩) (by simp; omega); have hq2 := hb1.cell (p := ⟨b, off + 1, none⟩) (by simp; omega); have hq3 := fun o => hb1.cell (p := ⟨w.heap.size, o, none⟩) (by simp; omega); have hq4 := fun o => hb1.frozen (p := ⟨w.heap.size, o, none⟩) (by simp; omega))
      | (go_at_call_of 76 (Value.slice a2 n2 c2); refine (clone_any a2 n2 c2 f2 _ ?_ hn2.1 hn2.2).mono ?_; (first | exact R2.out | exact R2.out.topb hb1 ); rintro e w2 ⟨g2, k2, rfl, hge2, hlt2, o2, hb2⟩; (first | (have hb2 := undrew hb2; have hge2 : W.heap.size ≤ g2 := hge2) | (have o1 := o1.call hb2)); have hs2 := hb2.size; have hq5 := hb2.cell (p := ⟨b, off, none⟩) (by simp; omega); have hq6 := hb2.cell (p := ⟨b, off + 1, none⟩) (by simp; omega); have hq7 := fun o => hb2.cell (p := ⟨w.heap.size, o, none⟩) (by simp; omega); have hq8 := fun o => hb2.frozen (p := ⟨w.heap.size, o, none⟩) (by simp; omega)))
  all_goals
    go_wp2
    refine bodyPost_ret (by simp [results, Try.results57, go_sem, *]; rfl) rfl ?_
    refine ⟨g1, k1, g2, k2, rfl, ⟨by omega, by simp; omega⟩, ⟨by omega, by simp; omega⟩, by omega, ?_, ?_, ?_⟩
    · exact (o1.store (a := ⟨w.heap.size, 0, none⟩) (by simp; omega) _).store (a := ⟨w.heap.size, 1, none⟩) (by simp; omega) _
    · exact (o2.store (a := ⟨w.heap.size, 0, none⟩) (by simp; omega) _).store (a := ⟨w.heap.size, 1, none⟩) (by simp; omega) _
    · first | (have hbf : Below w.heap.size w w2 := bl (bl hbz (by omega) hb1) (by omega) hb2; go_grown) | (have hbf : Below w.heap.size w w1 := bl (bl hbz (by omega) hb2) (by omega) hb1; go_grown)
end Go.Proofs.Ytjppkcfbhhjniaa
