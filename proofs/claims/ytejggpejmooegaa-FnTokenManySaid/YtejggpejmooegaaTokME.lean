/-
  m[k] += x in two operations (the entry, then its store), for a map that the call has made.
-/
import Derived.Test.YtejggpejmooegaaTokMM
import Derived.WideKeyEntry
namespace Go.Proofs.Ytejggpejmooegaa
open Go.RowKit Go.Deep Go.Maps Go.WideMaps Go.WideElems Go.ChangeMaps
set_option linter.unusedVariables false

section
variable {P : Program} {w w' : World} {t k e : TypeId} {b n : Nat} {M : DataW Unit}
theorem owns_of_block {R : Value → Option (DataW Unit × List MemPlace)} (h : w.ownsMap P k R b n M) (hb : w'.heap[b]? = w.heap[b]?) : w'.ownsMap P k R b n M := by
  obtain ⟨es, clock, h1, r⟩ := h
  exact ⟨es, clock, hb.trans h1, r⟩
theorem turned_grown {es es' : Array MapEntry} {clock clock' : Nat} (hb : w.heap[b]? = some (.map es clock)) : w.grownBy (setBlock w b (.map es' clock')) (some b) :=
  World.mapTurned.grown ⟨es, clock, es', clock', hb, rfl⟩
theorem turned_same {es : Array MapEntry} {clock : Nat} (hb : w.heap[b]? = some (.map es clock)) : (setBlock w b (.map es clock)).heap[b]? = w.heap[b]? := (heap_setBlock_same hb _).trans hb.symm
theorem entry_two (K : KeyLaw P k) (ht : P.underlying t = some (.map k e)) (he : P.underlying e = some (.int .i64)) (hz : ∀ u : World, (zeroValue e).run P u = .ok (.int .i64 0) u)
    (h : w.ownsMap P k (plainElem P e) b n M) (hn : n < maxLen) {key : Value} {kl : Lit} (hkey : keyOf P k key = some kl) {y : Int} (hy : M.atKey kl (.lit (.int .i64 0)) = .lit (.int .i64 y)) :
    ∃ (st : Nat) (w1 : World) (M1 : DataW Unit), (Instr.mapEntry t (.map (some b)) key).run P w = .ok (.tuple #[.int .i64 y, .int .i64 (st : Int)]) w1 ∧ w.grownBy w1 (some b) ∧ w1.heap.size = w.heap.size ∧ w1.ownsMap P k (plainElem P e) b (n + 1) M1 ∧
      M1.atKey kl (.lit (.int .i64 0)) = .lit (.int .i64 y) ∧ ∀ (w2 : World), w2.heap[b]? = w1.heap[b]? → ∀ x : Int, (Lit.int .i64 x).wf = true → ∃ w3, (Instr.entryStore t (.map (some b)) (.int .i64 (st : Int)) (.int .i64 x)).run P w2 = .ok () w3 ∧
        w3.ownsMap P k (plainElem P e) b (n + 1) (M.put kl (.lit (.int .i64 x))) ∧ w2.grownBy w3 (some b) := by
  have hown := h
  have hM0 := h.isMap
  obtain ⟨es, clock, hb, F, hs, hM⟩ := h
  obtain ⟨v0, st, es1, clock1, hrun, hv0, hst⟩ := WideElems.entry_then_store K ht hz hb F hkey
  have hstore : ∀ (w2 : World), w2.heap[b]? = some (.map es1 clock1) → ∀ x : Int, (Lit.int .i64 x).wf = true → ∃ w3, (Instr.entryStore t (.map (some b)) (.int .i64 (st : Int)) (.int .i64 x)).run P w2 = .ok () w3 ∧
        w3.ownsMap P k (plainElem P e) b (n + 1) (M.put kl (.lit (.int .i64 x))) ∧ w2.grownBy w3 (some b) := fun w2 h2 x hx => by
    obtain ⟨es', clock', r1, r2⟩ := hst w2 (.int .i64 x) h2
    obtain ⟨w', q1, q2, _⟩ := hown.update (Keyed.of_law K) ht hn hkey (plainElem_int he hx)
    rw [r2] at q1
    injection q1 with _ q1
    subst q1
    refine ⟨_, r1, owns_of_block q2 ?_, turned_grown h2⟩
    rw [heap_setBlock_same h2, heap_setBlock_same hb]
  rcases K.find w hkey es.toList F.keys with ⟨hf, hno⟩ | ⟨j, e0, hf, h2, h3⟩
  · have hv : v0 = .int .i64 0 := by
      rcases hv0 with ⟨e0, h1, h2, _⟩ | ⟨_, h2⟩
      · exact absurd h2 (hno e0 h1)
      · exact h2
    have hy0 : y = 0 := by
      have := atKey_none K F hkey hno (.lit (.int .i64 0))
      rw [← hM, hy] at this
      injection this with this
      injection this
    subst hy0 hv
    have hE : (Instr.mapEntry t (.map (some b)) key).run P w = .ok (.tuple #[.int .i64 0, goInt clock]) (setBlock w b (.map (es.push ⟨key, .int .i64 0, clock⟩) (clock + 1))) := by
      simp [Instr.mapEntry, run_underlying ht, MapKept.run_getObj_map hb, K.check w false hkey, hf, hz, MapKept.run_setObj_map _ hb, Result.andThen, setBlock]
    have hU : (Instr.mapUpdate t (.map (some b)) key (.int .i64 0)).run P w = .ok () (setBlock w b (.map (es.push ⟨key, .int .i64 0, clock⟩) (clock + 1))) := by
      simp [Instr.mapUpdate, run_underlying ht, MapKept.run_getObj_map hb, K.check w false hkey, hf, MapKept.run_setObj_map _ hb, Result.andThen, setBlock]
    obtain ⟨w', q1, q2, q3⟩ := hown.update (Keyed.of_law K) ht hn hkey (plainElem_int he (a := 0) (by decide))
    rw [hU] at q1
    injection q1 with _ q1
    have hE2 := hE
    rw [hrun] at hE2
    injection hE2 with _ hE2
    rw [← hE2] at q1
    refine ⟨st, _, _, hrun, turned_grown hb, by simp [setBlock], by rw [q1]; exact q2, atKey_put_same hM0 ((Keyed.of_law K).key hkey) _ _, fun w2 h2 x hx => hstore w2 (by rw [h2, heap_setBlock_same hb]) x hx⟩
  · have hm0 := List.mem_of_getElem? h2
    have hj : es[j]? = some e0 := by simpa using h2
    have hsame : es.modify j (fun e => { e with key := key }) = es := by
      apply Array.ext'
      rw [Array.toList_modify, modify_eq_set _ _ _ _ h2]
      have : ({ e0 with key := key } : MapEntry) = e0 := by rw [← h3]
      rw [this]
      exact set_self _ _ _ h2
    have hE : (Instr.mapEntry t (.map (some b)) key).run P w = .ok (.tuple #[e0.val, goInt e0.born]) (setBlock w b (.map es clock)) := by
      simp [Instr.mapEntry, run_underlying ht, MapKept.run_getObj_map hb, K.check w false hkey, hf, hj, h3, K.stays w hkey, hsame, MapKept.run_setObj_map _ hb, Result.andThen, setBlock]
    rw [hrun] at hE
    injection hE with hE hE2
    have hv : v0 = e0.val := by
      injection hE with hE
      have := congrArg (fun a : Array Value => a[0]?) hE
      simpa using this
    obtain ⟨z1, hz1⟩ := F.reads e0 hm0
    obtain ⟨kk, hk1, hk2⟩ : ∃ kk, keyOf P k e0.key = some kk ∧ ∃ z, plainElem (H := Unit) P e e0.val = some z := by
      unfold WideElems.rd at hz1
      simp only [Option.bind_eq_some_iff, Option.map_eq_some_iff] at hz1
      obtain ⟨kk, h1, d, h2, _⟩ := hz1
      exact ⟨kk, h1, d, h2⟩
    obtain ⟨z, hz0⟩ := hk2
    obtain ⟨c, hc, hc2, _⟩ := plainElem_int_inv he hz0
    have hat := atKey_some K F hkey hm0 h3 hz0 (.lit (.int .i64 0))
    rw [← hM, hy, hc2] at hat
    have hyc : y = c := by injection hat with hat; injection hat
    subst hyc
    rw [hv, hc] at hrun
    refine ⟨st, _, M, hrun, turned_grown hb, by simp [setBlock], ?_, hy, fun w2 h2 x hx => hstore w2 (by rw [h2, heap_setBlock_same hb]) x hx⟩
    rw [hE2]
    exact (owns_of_block hown (turned_same hb)).mono (by omega)
end
end Go.Proofs.Ytejggpejmooegaa
