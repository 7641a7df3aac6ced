/-
  Contract of (beats).list: the groups of a text as a new list.
-/
import Derived.Test.YtanfhgliilkhjaaBkC
namespace Go.Proofs.Ytanfhgliilkhjaa
open Go.RowKit Go.Deep
set_option linter.unusedVariables false
theorem txt_at {n k : Nat} {f : Nat → Int} (hk : k < n) (p : k < (txt n f).size) : (txt n f)[k]'p = UInt8.ofNat (f k).toNat := by
  have h1 : (strOfNums (lst f n)).data.toList[k]? = some (UInt8.ofNat (f k).toNat) := by rw [strOfNums_data]; simp [lst, hk]
  have h2 : (strOfNums (lst f n)).data.toList[k]? = some ((txt n f)[k]'p) := by
    rw [Array.getElem?_toList]
    exact Array.getElem?_eq_getElem (xs := (strOfNums (lst f n)).data) p
  rw [h1] at h2
  exact (Option.some.inj h2).symm
set_option maxRecDepth 100000 in
set_option maxHeartbeats 2000000 in
theorem iList (n : Nat) (f : Nat → Int) (w : World) (hg : grpV n f) (hn : n ≤ 1048576) :
    Calls Try.prog 55 #[.string (txt n f)] w fun e w' => e = .returned (.slice (some ⟨w.heap.size, 0, none⟩) n n) ∧ Ow w' w.heap.size (some ⟨w.heap.size, 0, none⟩) n f ∧ w.heap.size < w'.heap.size ∧ Below w.heap.size w w' := by
  have hz : (txt n f).size = n := by rw [txt, strOfNums_size, lst_len]
  have hmk := run_make_row' (P := Try.prog) 23 3 (.int .i64 0) 8 Try.underlying23 intInfo rfl .i64 .i64 n (by omega) (by omega)
  go_enter Try.func55, Try.ntmps55
  go_wp2
  have hrow := World.rowIs_made w (.int .i64 0) n 3
  go_loopw [10] (fun i wr => ∃ k : Nat, k ≤ n ∧ i = .int .i64 k ∧ wr.rowIs w.heap.size 3 n (fun j => .int .i64 (if j < k then f j else 0)) ∧ Below w.heap.size w wr) (fun i _ => n - (intOf i).toNat)
  case atStart => exact ⟨0, Nat.zero_le _, rfl, hrow.congr (fun j _ => by simp), by go_grown⟩
  case round =>
    obtain ⟨k, hk, rfl, hr, hb⟩ := hrel
    clear hmk hrow
    by_cases hlt : k < n
    · have hnew := hr.cell hlt
      have hfz := hr.frozen k
      have k0 : (0 : Int) ≤ (k : Int) := by omega
      have k1 : (k : Int) < (n : Int) := by omega
      have hst := Lib.hid (hr.set (i := k) (v := .int .i64 (f k)))
      have hgk := hg k hlt
      have hx : ∀ p : k < (txt n f).size, wrap64 (((txt n f)[k]'p).toNat : Int) = f k := fun p => by
        rw [txt_at hlt p, UInt8.toNat_ofNat']
        rw [show (((f k).toNat % 2 ^ 8 : Nat) : Int) = f k by omega]
        exact IntWalk.wrap64_in _ (by omega)
      go_wp2
      go_roundw
      case rel => exact ⟨k + 1, by omega, by go_num, hst.out.congr (fun j _ => cells_step f j k), by go_grown⟩
      case measure => simp [intOf]; omega
    · obtain rfl : k = n := by omega
      go_wp2
      go_ret
      exact ⟨rfl, Ow.of_row (hr.congr fun j hj => by simp [hj]) (Nat.le_refl _), hr.lt, hb⟩
end Go.Proofs.Ytanfhgliilkhjaa
