/-
  The key's law of the map keyed by states.
-/
import Derived.Test.YtejggpejmooegaaTokMB
import Derived.Maps.OwnSet
import Derived.Maps.OwnOps
import Derived.Maps.Keyed
import Derived.DeepKeys4
import Derived.WideKeyEntry
namespace Go.Proofs.Ytejggpejmooegaa
open Go.RowKit Go.Deep Go.Maps Go.WideMaps
set_option linter.unusedVariables false

theorem laidOutT : laidOutB Try.prog = true := by kernel_rfl
theorem rowTok : (27 : TypeId) < Try.prog.types.size := of_decide_eq_true (by kernel_rfl)
theorem wideTok : (match Try.prog.underlying 27 with | some (.array _ _) | some (.struct _) => true | _ => false) = true := by kernel_rfl
theorem klTok : KeyLaw Try.prog 27 := deep_law_laid laidOutT (m := 2) (by omega) rowTok (by kernel_rfl) wideTok
theorem lawTok : Keyed Try.prog 27 := Keyed.of_law klTok
theorem kInt (D : Nat) (a : Int) (ha : (Lit.int .i64 a).wf = true) : Try.prog.keyLits (D + 1) 3 [.int .i64 a] = some [.int .i64 a] := by
  unfold Program.keyLits
  rw [Try.underlying3]
  simp [ha]
theorem cellsTok : Try.prog.cellsOf 27 = 3 := by kernel_rfl
theorem cellsInt : Try.prog.cellsOf 3 = 1 := by kernel_rfl
theorem ktTok : Try.prog.keyType 27 = true := by kernel_rfl
theorem kTok (D : Nat) (a b o : Int) (ha : (Lit.int .i64 a).wf = true) (hb : (Lit.int .i64 b).wf = true) (ho : (Lit.int .i64 o).wf = true) : Try.prog.keyLits (D + 1 + 1) 27 [.int .i64 a, .int .i64 b, .int .i64 o] = some [.int .i64 a, .int .i64 b, .int .i64 o] := by
  unfold Program.keyLits
  rw [Try.underlying27]
  simp [cellsTok, cellsInt, kInt _ _ ha, kInt _ _ hb, kInt _ _ ho]
theorem keyTok (a b o : Int) (ha : (Lit.int .i64 a).wf = true) (hb : (Lit.int .i64 b).wf = true) (ho : (Lit.int .i64 o).wf = true) : ∃ l, keyOf Try.prog 27 (.agg #[.int .i64 a, .int .i64 b, .int .i64 o]) = some l := by
  have hf : (Value.agg #[.int .i64 a, .int .i64 b, .int .i64 o]).formed Try.prog 27 = true := by simp [Value.formed, Try.underlying27, cellsTok]
  have hd : ∃ D, Try.prog.types.size = D + 1 := ⟨_, (Nat.succ_pred_eq_of_pos (Nat.lt_of_le_of_lt (Nat.zero_le _) rowTok)).symm⟩
  obtain ⟨D, hD⟩ := hd
  unfold keyOf
  rw [Try.underlying27]
  simp only [ktTok, hf, Bool.and_self, if_true, hD]
  exact ⟨_, by rw [show (Value.agg #[.int .i64 a, .int .i64 b, .int .i64 o]).cells.toList = [.int .i64 a, .int .i64 b, .int .i64 o] from rfl, kTok D a b o ha hb ho]; rfl⟩
/-- The key as the map's datum has it. -/
noncomputable def kf (s : Tk) : Lit := (keyOf Try.prog 27 (tkL s)).getD (.int .i64 0)
theorem kf_key {s : Tk} (h : vk s) : keyOf Try.prog 27 (tkL s) = some (kf s) := by
  obtain ⟨a, b, o⟩ := s
  have hv := tokV_iff.1 (show tokV a b o = true from h)
  obtain ⟨l, hl⟩ := keyTok a b o (WalkArith.wf_i64 (by omega)) (WalkArith.wf_i64 (by omega)) (WalkArith.wf_i64 (by omega))
  have hl : keyOf Try.prog 27 (tkL (a, b, o)) = some l := hl
  unfold kf
  rw [hl]; rfl
theorem kf_inj {s t : Tk} (hs : vk s) (ht : vk t) (h : kf s = kf t) : s = t := by
  have h1 := kf_key hs
  have h2 := kf_key ht
  rw [h] at h1
  have h3 := klTok.inj h1 h2
  obtain ⟨a, b, o⟩ := s
  obtain ⟨a', b', o'⟩ := t
  simpa [tkL] using h3
end Go.Proofs.Ytejggpejmooegaa
