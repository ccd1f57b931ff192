/- The entry's law, with the world between. -/
import Derived.Test.Qxb6500357aGreatMapW
namespace Go.Tag
open Go.RowKit
set_option linter.unusedSectionVars false
set_option linter.unusedVariables false
section
variable {κ : Type} [DecidableEq κ] {P : Program} {w : World} {b r : Nat} {ke : κ → Value} {f : κ → Option Value} {kt et t : TypeId}
/-- 'm[k] += d' where the key and its entry's stamp are asked apart: the entry is made, then written. -/
theorem MapFn.entry2 (h : MapFn w b ke f) (K : KeyOK P kt ke) (ht : P.underlying t = some (.map kt et)) {z : Value} (hz : ∀ w, (zeroValue et).run P w = .ok z w) (k : κ) :
    ∃ o stamp, (Instr.mapEntry t (.map (some b)) (ke k)).run P w = .ok (.tuple #[(f k).getD z, .int .i64 stamp]) (put w b o) ∧ MapFn (put w b o) b ke (upd f k (some ((f k).getD z))) ∧
      ∀ v, ∃ o', (Instr.entryStore t (.map (some b)) (.int .i64 stamp) v).run P (put w b o) = .ok () (put (put w b o) b o') ∧ MapFn (put (put w b o) b o') b ke (upd f k (some v)) := by
  have hlt := h.lt
  obtain ⟨es, clock, hb, he⟩ := h
  have fin : ∀ (es' : Array MapEntry) (clock' : Nat) (i : Nat) (e : MapEntry) (g : κ → Option Value), Ents ke g es' clock' → es'[i]? = some e → e.key = ke k → (∀ v, upd g k (some v) = upd f k (some v)) →
      ∀ v, ∃ o', (Instr.entryStore t (.map (some b)) (.int .i64 (e.born : Int)) v).run P (put w b (.map es' clock')) = .ok () (put (put w b (.map es' clock')) b o') ∧ MapFn (put (put w b (.map es' clock')) b o') b ke (upd f k (some v)) := by
    intro es' clock' i e g hE hi hk hg v
    have hb' : (put w b (.map es' clock')).heap[b]? = some (.map es' clock') := put_same hlt _
    have hfi : es'.findIdx? (fun x => (x.born : Int) == (e.born : Int)) = some i := by
      rw [Array.findIdx?_eq_some_iff_getElem]
      obtain ⟨hi1, hi2⟩ := Array.getElem?_eq_some_iff.1 hi
      refine ⟨hi1, by simp [hi2], fun j hj => ?_⟩
      have hj1 : j < es'.size := Nat.lt_trans hj hi1
      simp only [Bool.not_eq_true, beq_eq_false_iff_ne, ne_eq]
      intro hbe
      have h1 : (es'.toList.map (·.born))[j]'(by simpa using hj1) = (es'.toList.map (·.born))[i]'(by simpa using hi1) := by simp [hi2]; omega
      exact absurd h1 (List.pairwise_iff_getElem.1 hE.borns j i _ _ hj)
    refine ⟨.map (es'.modify i fun e => { e with val := v }) clock', ?_, _, _, put_same (by simpa using hlt) _, ?_⟩
    · simp only [Instr.entryStore, Sem.run_bind, Result.andThen_ok, MapKept.run_getObj_map hb', asInt, asIntOf, Sem.run_pure, hfi, MapKept.run_setObj_map _ hb']
      rfl
    · rw [← hg v]
      exact hE.modify (P := P) (kt := kt) K hi hk v _ (by rw [← hk])
  rcases he.find K w k with ⟨h1, h2⟩ | ⟨i, e, h1, h2, h3, h4⟩
  · refine ⟨.map (es.push { key := ke k, val := z, born := clock }) (clock + 1), clock, ?_, ?_, ?_⟩
    · simp only [Instr.mapEntry, Sem.run_bind, run_underlying ht, Result.andThen_ok, MapKept.run_getObj_map hb, K.check, h1, hz, MapKept.run_setObj_map _ hb, h2, Option.getD_none]
      rfl
    · rw [h2]; exact ⟨_, _, put_same hlt _, he.push K h2 z⟩
    · refine fin _ _ es.size { key := ke k, val := z, born := clock } (upd f k (some z)) (he.push K h2 z) (by simp) rfl (fun v => ?_)
      funext j
      by_cases hj : j = k
      · subst hj; simp
      · rw [upd_ne _ _ hj, upd_ne _ _ hj, upd_ne _ _ hj]
  · refine ⟨.map (es.modify i fun e => { e with key := ke k }) clock, e.born, ?_, ?_, ?_⟩
    · simp only [Instr.mapEntry, Sem.run_bind, run_underlying ht, Result.andThen_ok, MapKept.run_getObj_map hb, K.check, h1, h2, Option.map_some, Option.getD_some, Instr.keyThatStays, h3, K.bits, if_true, Sem.run_pure, MapKept.run_setObj_map _ hb, h4]
      rfl
    · rw [h4]; exact ⟨_, _, put_same hlt _, he.modify K h2 h3 e.val _ rfl⟩
    · refine fin _ _ i { e with key := ke k } (upd f k (some e.val)) (he.modify K h2 h3 e.val _ rfl) (by rw [get_modify]; simp [h2]) rfl (fun v => ?_)
      funext j
      by_cases hj : j = k
      · subst hj; simp
      · rw [upd_ne _ _ hj, upd_ne _ _ hj, upd_ne _ _ hj]

theorem MapFn.entry3 (h : MapFn w b ke f) (K : KeyOK P kt ke) (ht : P.underlying t = some (.map kt et)) {z : Value} (hz : ∀ w, (zeroValue et).run P w = .ok z w) (k : κ) :
    ∃ w1 stamp, (Instr.mapEntry t (.map (some b)) (ke k)).run P w = .ok (.tuple #[(f k).getD z, .int .i64 stamp]) w1 ∧ Turned b w w1 ∧ (Instr.lookup t (.map (some b)) (ke k) false).run P w1 = .ok ((f k).getD z) w1 ∧
      ∀ v, ∃ w2, (Instr.entryStore t (.map (some b)) (.int .i64 stamp) v).run P w1 = .ok () w2 ∧ MapFn w2 b ke (upd f k (some v)) ∧ Turned b w w2 := by
  obtain ⟨o, s, h1, h0, h2⟩ := h.entry2 K ht hz k
  refine ⟨_, s, h1, turned_put _ _ _, ?_, fun v => ?_⟩
  · have := h0.lookup_v K ht (hz _) k
    rw [upd_same] at this; exact this
  · obtain ⟨o', h3, h4⟩ := h2 v
    exact ⟨_, h3, h4, (turned_put _ _ _).trans (turned_put _ _ _)⟩
end
end Go.Tag
