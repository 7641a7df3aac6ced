/-
  The map of states and numbers.
-/
import Derived.Test.YtejggpejmooegaaTokMK
namespace Go.Proofs.Ytejggpejmooegaa
open Go.RowKit Go.Deep Go.Maps Go.WideMaps
set_option linter.unusedVariables false

theorem kf_lit {s : Tk} (h : vk s) : WideAt.IsKeyLit (kf s) := by
  obtain ⟨b, hb⟩ := klTok.str (kf_key h)
  rw [hb]; trivial
/-- What the datum holds: the states of l, each with its number. -/
def MD (M : DataW Unit) (l : List Tk) (v : Tk → Nat) : Prop := Tidy M ∧ Maps.size M = l.length ∧ (∀ s, vk s → (Maps.has M (kf s) = true ↔ s ∈ l)) ∧ ∀ s, vk s → s ∈ l → M.atKey (kf s) (.lit (.int .i64 0)) = .lit (.int .i64 (v s : Int))
theorem MD.new (v : Tk → Nat) : MD (.map []) [] v := ⟨tidy_empty, rfl, fun s _ => ⟨fun h => absurd h (by rw [has_eq]; simp), fun h => absurd h (by simp)⟩, fun s _ h => absurd h (by simp)⟩
theorem MD.no {M : DataW Unit} {l : List Tk} {v : Tk → Nat} (h : MD M l v) {s : Tk} (hs : vk s) (hn : s ∉ l) : Maps.has M (kf s) = false ∧ M.atKey (kf s) (.lit (.int .i64 0)) = .lit (.int .i64 0) := by
  have hh : Maps.has M (kf s) = false := by
    cases e : Maps.has M (kf s)
    · rfl
    · exact absurd ((h.2.2.1 s hs).1 e) hn
  exact ⟨hh, atKey_of_not_has hh _⟩
theorem kf_ne {s t : Tk} (hs : vk s) (ht : vk t) (h : s ≠ t) : kf s ≠ kf t := fun e => h (kf_inj hs ht e)
theorem MD.in_ {M : DataW Unit} {l : List Tk} {v : Tk → Nat} (h : MD M l v) {x : Tk} (hx : vk x) (hm : x ∈ l) (y : Nat) : MD (M.put (kf x) (.lit (.int .i64 (y : Int)))) l (upd v x y) := by
  obtain ⟨h1, h2, h3, h4⟩ := h
  refine ⟨h1.put (kf_lit hx) _, ?_, fun s hs => ?_, fun s hs hl => ?_⟩
  · rw [size_put h1, if_pos ((h3 x hx).2 hm)]; exact h2
  · by_cases e : s = x
    · subst e; rw [has_put_same h1.isMap (kf_lit hx)]; exact ⟨fun _ => hm, fun _ => rfl⟩
    · rw [has_put_other (kf_ne hs hx e)]; exact h3 s hs
  · show _ = DataW.lit (.int .i64 ((if s = x then y else v s : Nat) : Int))
    by_cases e : s = x
    · subst e; rw [atKey_put_same h1.isMap (kf_lit hx), if_pos rfl]
    · rw [atKey_put_other (kf_ne hs hx e), if_neg e]; exact h4 s hs hl
theorem MD.add {M : DataW Unit} {l : List Tk} {v : Tk → Nat} (h : MD M l v) {x : Tk} (hx : vk x) (hm : x ∉ l) (y : Nat) : MD (M.put (kf x) (.lit (.int .i64 (y : Int)))) (l ++ [x]) (upd v x y) := by
  have hno := (h.no hx hm).1
  obtain ⟨h1, h2, h3, h4⟩ := h
  refine ⟨h1.put (kf_lit hx) _, ?_, fun s hs => ?_, fun s hs hl => ?_⟩
  · rw [size_put h1, hno, List.length_append, ← h2]; simp
  · by_cases e : s = x
    · subst e; rw [has_put_same h1.isMap (kf_lit hx)]; exact ⟨fun _ => by simp, fun _ => rfl⟩
    · rw [has_put_other (kf_ne hs hx e), h3 s hs, List.mem_append]
      exact ⟨fun h => .inl h, fun h => h.elim id (fun h => absurd (by simpa using h) e)⟩
  · show _ = DataW.lit (.int .i64 ((if s = x then y else v s : Nat) : Int))
    by_cases e : s = x
    · subst e; rw [atKey_put_same h1.isMap (kf_lit hx), if_pos rfl]
    · rw [atKey_put_other (kf_ne hs hx e), if_neg e]
      rcases List.mem_append.1 hl with hl | hl
      · exact h4 s hs hl
      · exact absurd (by simpa using hl) e
end Go.Proofs.Ytejggpejmooegaa
