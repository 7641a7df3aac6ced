/-
  Contracts of PathLate, the program's and the reference's.
-/
import Derived.Test.YtjppkcfbhhjniaaPathV
import Derived.Test.YtjppkcfbhhjniaaPathC
namespace Go.Proofs.Ytjppkcfbhhjniaa
open Go.RowKit
set_option linter.unusedVariables false

/-- A path and a yes or a no. -/
def PathRes (w : World) (ok : Bool) (n1 : Nat) (f1 : Nat → Int) (n2 : Nat) (f2 : Nat → Int) (e : Ending) (w' : World) : Prop :=
  ∃ (a1 : Option Addr) (c1 : Nat) (a2 : Option Addr) (c2 : Nat), e = .returned (.tuple #[.agg #[.slice a1 n1 c1, .slice a2 n2 c2], .bool ok]) ∧ OwP w' w.heap.size w'.heap.size a1 n1 f1 a2 n2 f2 ∧ Below w.heap.size w w'
def NoPath (w : World) (e : Ending) (w' : World) : Prop := e = .returned (.tuple #[.agg #[.slice none 0 0, .slice none 0 0], .bool false]) ∧ Below w.heap.size w w'
/-- The first i times moved. -/
def mov (k : Int) (i : Nat) (f : Nat → Int) : Nat → Int := fun j => if j < i then f j + k else f j
theorem mov_step (k : Int) (i : Nat) (f : Nat → Int) (j : Nat) : (if j = i then f i + k else mov k i f j) = mov k (i + 1) f j := by
  unfold mov
  by_cases e : j = i
  · subst e; rw [if_pos rfl, if_pos (by omega)]
  · rw [if_neg e]
    by_cases e2 : j < i
    · rw [if_pos e2, if_pos (by omega)]
    · rw [if_neg e2, if_neg (by omega)]
theorem mov_at (k : Int) (i : Nat) (f : Nat → Int) : mov k i f i = f i := by unfold mov; rw [if_neg (by omega)]
theorem mov_all {k : Int} {n : Nat} {f : Nat → Int} {j : Nat} (h : j < n) : mov k n f j = f j + k := if_pos h
set_option maxHeartbeats 2000000 in
theorem iLate_no (a1 a2 : Option Addr) (n1 c1 n2 c2 : Nat) (f1 f2 : Nat → Int) (n k : Int) (w : World) (r1 : Rn w w.heap.size a1 n1 f1) (r2 : Rn w w.heap.size a2 n2 f2) (hv : pathV n ⟨n1, f1, n2, f2⟩ = false ∨ ¬ (-2000 ≤ k ∧ k ≤ 2000)) :
    Calls Try.prog 29 #[.int .i64 n, .agg #[.slice a1 n1 c1, .slice a2 n2 c2], .int .i64 k] w (NoPath w) := by
  have R1 := Lib.hid ((r1.top (.cells #[.slice a1 n1 c1, .slice a2 n2 c2] 31)).top (.cells #[.slice none 0 0, .slice none 0 0] 31))
  have R2 := Lib.hid ((r2.top (.cells #[.slice a1 n1 c1, .slice a2 n2 c2] 31)).top (.cells #[.slice none 0 0, .slice none 0 0] 31))
  cases hp : pathV n ⟨n1, f1, n2, f2⟩
  · have P := Lib.hid hp
    clear hv hp
    go_enter Try.func29, Try.ntmps29
    go_wp2_with (go_at_call 59; refine (iValid_is false w.heap.size 0 a1 a2 n1 c1 n2 c2 f1 f2 n _ P.out ?_ ?_ R1.out R2.out).mono ?_; (simp [go_sem]); (simp [go_sem]); rintro e w1 ⟨rfl, q, rfl⟩)
    refine bodyPost_ret (by simp [results, Try.results29, go_sem, *]; rfl) rfl ?_
    exact ⟨rfl, (by go_grown <;> (refine below_dn ?_ _ <;> go_grown <;> (refine below_dn ?_ _ <;> go_grown)))⟩
  · have P := Lib.hid hp
    have hk : k < -2000 ∨ (-2000 ≤ k ∧ 2000 < k) := by
      rcases hv with hv | hv
      · rw [hp] at hv; cases hv
      · omega
    clear hv hp
    rcases hk with hk | ⟨hk, hk2⟩
    all_goals
      go_enter Try.func29, Try.ntmps29
      go_wp2_with (go_at_call 59; refine (iValid_is true w.heap.size 0 a1 a2 n1 c1 n2 c2 f1 f2 n _ P.out ?_ ?_ R1.out R2.out).mono ?_; (simp [go_sem]); (simp [go_sem]); rintro e w1 ⟨rfl, q, rfl⟩)
      refine bodyPost_ret (by simp [results, Try.results29, go_sem, *]; rfl) rfl ?_
      exact ⟨rfl, (by go_grown <;> (refine below_dn ?_ _ <;> go_grown <;> (refine below_dn ?_ _ <;> go_grown)))⟩
def LateP (w : World) (ok : Bool) (m : Nat) (k : Int) (f1 f2 : Nat → Int) (e : Ending) (w' : World) : Prop := if ok = true then PathRes w true m (fun j => f1 j + k) m (fun j => f2 j + k) e w' else NoPath w e w'
theorem late_val {m : Nat} {k : Int} {f1 f2 g1 g2 : Nat → Int} {ok : Bool} (h1 : ∀ j, j < m → g1 j = f1 j + k) (h2 : ∀ j, j < m → g2 j = f2 j + k) (h : pathV m (lateD k ⟨m, f1, m, f2⟩) = ok) : pathV m ⟨m, g1, m, g2⟩ = ok := by
  rw [← h, Bool.eq_iff_iff, pathV_iff, pathV_iff]
  refine and_congr_right fun _ => and_congr_right fun _ => and_congr_right fun _ => and_congr_right fun _ => ?_
  simp only [Int.toNat_natCast, lateD]
  have hp : ∀ j, j < m → pv g2 j = pv (fun j => f2 j + k) j := fun j hj => by
    cases j with
    | zero => rfl
    | succ j => exact h2 j (by omega)
  exact forall_congr' fun j => forall_congr' fun hj => by rw [h1 j hj, h2 j hj, hp j hj]
set_option maxHeartbeats 4000000 in
theorem iLate_go (ok : Bool) (a1 a2 : Option Addr) (m c1 c2 : Nat) (f1 f2 : Nat → Int) (k : Int) (w : World) (r1 : Rn w w.heap.size a1 m f1) (r2 : Rn w w.heap.size a2 m f2) (hv : pathV m ⟨m, f1, m, f2⟩ = true) (hk : -2000 ≤ k ∧ k ≤ 2000)
    (hok : pathV m (lateD k ⟨m, f1, m, f2⟩) = ok) :
    Calls Try.prog 29 #[.int .i64 (m : Int), .agg #[.slice a1 m c1, .slice a2 m c2], .int .i64 k] w (LateP w ok m k f1 f2) := by
  have R1 := Lib.hid ((r1.top (.cells #[.slice a1 m c1, .slice a2 m c2] 31)).top (.cells #[.slice none 0 0, .slice none 0 0] 31))
  have R2 := Lib.hid ((r2.top (.cells #[.slice a1 m c1, .slice a2 m c2] 31)).top (.cells #[.slice none 0 0, .slice none 0 0] 31))
  have P := Lib.hid hv
  have OK := Lib.hid hok
  have hm := pathV_iff.1 hv
  have hm1 : 1 ≤ m ∧ m ≤ 5 := by omega
  obtain ⟨hk1, hk2⟩ := hk
  clear hv hok hm r1 r2
  go_enter Try.func29, Try.ntmps29
  go_wp2_with (go_at_call 59; refine (iValid_is true w.heap.size 0 a1 a2 m c1 m c2 f1 f2 m _ P.out ?_ ?_ R1.out R2.out).mono ?_; (simp [go_sem]); (simp [go_sem]); rintro e w1 ⟨rfl, q, rfl⟩)
  go_wp2_with fail
  refine (copied_any w.heap.size 0 a1 a2 m c1 m c2 f1 f2 _ ?_ ?_ ?_ (R1.out.topq q) (R2.out.topq q) ⟨by omega, by omega⟩ ⟨by omega, by omega⟩).mono ?_
  · simp [go_sem]
  · simp [go_sem]
  · show w.heap.size < ((w.alloc _).alloc _).heap.size
    simp; omega
  rintro e w2 ⟨g1, k1, g2, k2, rfl, hg1, hg2, hne, o1, o2, hn⟩
  have hn := undrewN hn
  have hb2 : Below w.heap.size w w2 := bl (by go_grown) (by first | exact Nat.le_refl _ | (simp; done) | (simp; omega)) hn
  have hxr : Bx w2 (w.heap.size + 1) [.slice none 0 0, .slice none 0 0] := Bx.call (by
    have h := Bx.new (w.alloc (.cells #[.slice a1 m c1, .slice a2 m c2] 31)) [.slice none 0 0, .slice none 0 0] 31
    simpa using h) hn
  have hg1 : w.heap.size + 1 + 1 ≤ g1 ∧ g1 < w2.heap.size := ⟨by have := hg1.1; simpa using this, hg1.2⟩
  have hg2 : w.heap.size + 1 + 1 ≤ g2 ∧ g2 < w2.heap.size := ⟨by have := hg2.1; simpa using this, hg2.2⟩
  have hx8 := Bx.new w2 [.slice (some ⟨g1, 0, none⟩) m k1, .slice (some ⟨g2, 0, none⟩) m k2] 31
  have hxr := hxr.alloc (.cells #[.slice (some ⟨g1, 0, none⟩) m k1, .slice (some ⟨g2, 0, none⟩) m k2] 31)
  have o1 := (o1.alloc (.cells #[.slice (some ⟨g1, 0, none⟩) m k1, .slice (some ⟨g2, 0, none⟩) m k2] 31)).congr (g := mov k 0 f1) (fun i _ => rfl)
  have o2 := (o2.alloc (.cells #[.slice (some ⟨g1, 0, none⟩) m k1, .slice (some ⟨g2, 0, none⟩) m k2] 31)).congr (g := mov k 0 f2) (fun i _ => rfl)
  clear hn
  go_wp2_with fail
  have hb3 : Below w.heap.size w (w2.alloc (.cells #[.slice (some ⟨g1, 0, none⟩) m k1, .slice (some ⟨g2, 0, none⟩) m k2] 31)) := hb2.alloc (by omega) _
  have hz3 : w2.heap.size < (w2.alloc (.cells #[.slice (some ⟨g1, 0, none⟩) m k1, .slice (some ⟨g2, 0, none⟩) m k2] 31)).heap.size := by simp
  generalize hB : w2.heap.size = B at *
  generalize hW3 : w2.alloc (.cells #[.slice (some ⟨g1, 0, none⟩) m k1, .slice (some ⟨g2, 0, none⟩) m k2] 31) = w3 at *
  clear hW3 hB hb2
  go_loopw [24] (fun i wr => ∃ j : Nat, j ≤ m ∧ i = .int .i64 j ∧ Bx wr B [.slice (some ⟨g1, 0, none⟩) m k1, .slice (some ⟨g2, 0, none⟩) m k2] ∧ Bx wr (w.heap.size + 1) [.slice none 0 0, .slice none 0 0] ∧ Ow wr g1 (some ⟨g1, 0, none⟩) m (mov k j f1) ∧ Ow wr g2 (some ⟨g2, 0, none⟩) m (mov k j f2) ∧ Below w.heap.size w wr) (fun i _ => m - (intOf i).toNat)
  case atStart => exact ⟨0, Nat.zero_le _, rfl, hx8, hxr, o1, o2, hb3⟩
  case round =>
    clear hx8 hxr o1 o2 hb3
    obtain ⟨j, hj, rfl, hx8, hxr, o1, o2, hb⟩ := hrel
    have x0 := hx8.cell (i := 0) (by simp)
    have x1 := hx8.cell (i := 1) (by simp)
    simp only [List.getElem_cons_zero, List.getElem_cons_succ] at x0 x1
    by_cases hlt : j < m
    · obtain ⟨z1, e1, hl1, hf1, hc1⟩ := o1 (by omega)
      obtain ⟨z2, e2, hl2, hf2, hc2⟩ := o2 (by omega)
      simp only [Option.some.injEq, Addr.mk.injEq, true_and, and_true] at e1 e2
      subst e1 e2
      have hcell1 := hc1 j hlt
      have hcell2 := hc2 j hlt
      rw [Nat.zero_add, mov_at] at hcell1 hcell2
      have hff1 := hf1 j
      have hff2 := hf2 j
      have ht := pathV_times P.out (k := j) (by omega)
      have b1 : 0 ≤ f1 j := ht.1
      have b2 : f1 j < f2 j := ht.2.1
      have b3 : f2 j ≤ 2000 := ht.2.2
      have s1 := Lib.hid (((o1.set (k := j) (v := f1 j + k)).congr (g := mov k (j + 1) f1) (fun i _ => mov_step k j f1 i)).store (a := ⟨g2, j, none⟩) hne (.int .i64 (f2 j + k)))
      have s2 := Lib.hid (((o2.store (a := ⟨g1, j, none⟩) (Ne.symm hne) (.int .i64 (f1 j + k))).set (k := j) (v := f2 j + k)).congr (g := mov k (j + 1) f2) (fun i _ => mov_step k j f2 i))
      have hne2 : g2 ≠ g1 := Ne.symm hne
      have hne3 : g1 ≠ B := by omega
      have hne4 : g2 ≠ B := by omega
      clear hc1 hc2 hf1 hf2 ht o1 o2
      go_wp2
      go_roundw
      case rel => exact ⟨j + 1, by omega, by go_num, (hx8.other (a := ⟨g1, j, none⟩) (Ne.symm hne3) _).other (a := ⟨g2, j, none⟩) (Ne.symm hne4) _, (hxr.other (a := ⟨g1, j, none⟩) (by simp; omega) _).other (a := ⟨g2, j, none⟩) (by simp; omega) _, by simpa using s1.out, by simpa using s2.out, by go_grown⟩
      case measure => simp [intOf]; omega
    · obtain rfl : j = m := by omega
      have hOK := Lib.hid (late_val (fun i hi => mov_all (f := f1) (k := k) hi) (fun i hi => mov_all (f := f2) (k := k) hi) OK.out)
      have q1 := Lib.hid (show Rn wr wr.heap.size _ _ _ from fun hn => by obtain ⟨_, _, h, _⟩ := o1 hn; exact o1.rn h hn)
      have q2 := Lib.hid (show Rn wr wr.heap.size _ _ _ from fun hn => by obtain ⟨_, _, h, _⟩ := o2 hn; exact o2.rn h hn)
      have c1 := o1.congr (g := fun j => f1 j + k) (fun i hi => mov_all hi)
      have c2 := o2.congr (g := fun j => f2 j + k) (fun i hi => mov_all hi)
      have y0 := hxr.cell (i := 0) (by simp)
      have y1 := hxr.cell (i := 1) (by simp)
      have z0 := hxr.frz 0
      have z1 := hxr.frz 1
      have hlB := hx8.lt
      have hlr := hxr.lt
      have hbz := hb.size
      simp only [List.getElem_cons_zero, List.getElem_cons_succ] at y0 y1
      have C1 := Lib.hid c1
      have C2 := Lib.hid c2
      have hne1 : g1 ≠ w.heap.size + 1 := by omega
      have hne2 : g2 ≠ w.heap.size + 1 := by omega
      clear o1 o2 c1 c2 hx8 hxr
      cases ok
      all_goals
        go_wp2_with fail
        refine (iValid_is _ B 0 (some ⟨g1, 0, none⟩) (some ⟨g2, 0, none⟩) j k1 j k2 _ _ j _ hOK.out x0 x1 q1.out q2.out).mono ?_
        rintro e w4 ⟨rfl, q, rfl⟩
        go_wp2
        refine bodyPost_ret (by simp [results, Try.results29, go_sem, *]; rfl) rfl ?_
      · exact ⟨rfl, (by go_grown <;> (refine below_dn ?_ _ <;> go_grown <;> (refine below_dn ?_ _ <;> go_grown)))⟩
      · refine ⟨_, _, _, _, rfl, ?_, (by go_grown <;> (refine below_dn ?_ _ <;> go_grown <;> (refine below_dn ?_ _ <;> go_grown)))⟩
        exact OwP.mk (g1 := g1) (g2 := g2) ⟨by omega, by simp; omega⟩ ⟨by omega, by simp; omega⟩ hne
          (((C1.out.drewN q).store (a := ⟨w.heap.size + 1, 0, none⟩) hne1 _).store (a := ⟨w.heap.size + 1, 1, none⟩) hne1 _)
          (((C2.out.drewN q).store (a := ⟨w.heap.size + 1, 0, none⟩) hne2 _).store (a := ⟨w.heap.size + 1, 1, none⟩) hne2 _)
end Go.Proofs.Ytjppkcfbhhjniaa
