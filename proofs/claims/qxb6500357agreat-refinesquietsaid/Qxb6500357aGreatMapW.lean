/- The map's writing laws, the world behind them a letter. -/
import Derived.Test.Qxb6500357aGreatRange
namespace Go.Tag
open Go.RowKit
set_option linter.unusedSectionVars false
set_option linter.unusedVariables false

/-- Only block b has turned, and no block is new. -/
structure Turned (b : Nat) (w w' : World) : Prop where
  fr : Fr (fun k => k = b) w w'
  size : w'.heap.size = w.heap.size

theorem turned_put (w : World) (b : Nat) (o : Obj) : Turned b w (put w b o) := ⟨(Fr.refl (fun k => k = b) w).put (.inr rfl) o, by simp⟩
theorem Turned.trans {b : Nat} {w w1 w2 : World} (h : Turned b w w1) (k : Turned b w1 w2) : Turned b w w2 := ⟨h.fr.trans k.fr, k.size.trans h.size⟩
theorem Turned.other {b k : Nat} {w w' : World} (h : Turned b w w') (hk : k ≠ b) : w'.heap[k]? = w.heap[k]? := by
  rcases Nat.lt_or_ge k w.heap.size with h' | h'
  · exact h.fr.block k h' hk
  · rw [Array.getElem?_eq_none h', Array.getElem?_eq_none (by rw [h.size]; exact h')]
theorem Turned.cell {b k o : Nat} {w w' : World} {v : Value} (h : Turned b w w') (hk : k ≠ b) (hc : w.cell? ⟨k, o, none⟩ = some v) : w'.cell? ⟨k, o, none⟩ = some v := h.fr.cell hc hk
theorem Turned.own {b : Nat} {w w' : World} (h : Turned b w w') {base : Nat} {e : TypeId} {size : Nat} {v : Value} {n : Nat} {xs : List Value} (ho : w.ownsRow base e size v n xs) (hb : v.ownBlock ≠ some b) : w'.ownsRow base e size v n xs :=
  own_fr ho h.fr (fun k hk e => hb (by rw [hk, e]))

section
variable {κ : Type} [DecidableEq κ] {P : Program} {w : World} {b r : Nat} {ke : κ → Value} {f : κ → Option Value} {kt et t : TypeId}

theorem MapFn.update' (h : MapFn w b ke f) (K : KeyOK P kt ke) (ht : P.underlying t = some (.map kt et)) (k : κ) (v : Value) :
    ∃ w1, (Instr.mapUpdate t (.map (some b)) (ke k) v).run P w = .ok () w1 ∧ MapFn w1 b ke (upd f k (some v)) ∧ Turned b w w1 :=
  let ⟨o, h1, h2⟩ := h.update K ht k v; ⟨_, h1, h2, turned_put _ _ _⟩
theorem MapFn.delete' (h : MapFn w b ke f) (K : KeyOK P kt ke) (ht : P.underlying t = some (.map kt et)) (k : κ) :
    ∃ w1, (∀ kt' ty, (Builtin.delete_ #[t, kt'] ty #[.map (some b), ke k]).run P w = .ok (.tuple #[]) w1) ∧ MapFn w1 b ke (upd f k none) ∧ Turned b w w1 := by
  obtain ⟨o, h1, h2⟩ := h.delete K ht k 0 0
  refine ⟨put w b o, fun kt' ty => ?_, h2, turned_put _ _ _⟩
  rw [← h1]; rfl
theorem MapFn.clear' (h : MapFn w b ke f) (ht : P.underlying t = some (.map kt et)) :
    ∃ w1, (∀ ty, (Builtin.clear_ #[t] ty #[.map (some b)]).run P w = .ok (.tuple #[]) w1) ∧ MapFn w1 b ke (fun _ => none) ∧ Turned b w w1 := by
  obtain ⟨o, h1, h2⟩ := h.clear ht 0
  refine ⟨put w b o, fun ty => ?_, h2, turned_put _ _ _⟩
  rw [← h1]; rfl
theorem MapFn.entry' (h : MapFn w b ke f) (K : KeyOK P kt ke) (ht : P.underlying t = some (.map kt et)) {z : Value} (hz : ∀ w, (zeroValue et).run P w = .ok z w) (k : κ) :
    ∃ w1 stamp, (Instr.mapEntry t (.map (some b)) (ke k)).run P w = .ok (.tuple #[(f k).getD z, .int .i64 stamp]) w1 ∧ Turned b w w1 ∧
      ∀ v, ∃ w2, (Instr.entryStore t (.map (some b)) (.int .i64 stamp) v).run P w1 = .ok () w2 ∧ MapFn w2 b ke (upd f k (some v)) ∧ Turned b w w2 := by
  obtain ⟨o, s, h1, h2⟩ := h.entry K ht hz k
  refine ⟨_, s, h1, turned_put _ _ _, fun v => ?_⟩
  obtain ⟨o', h3, h4⟩ := h2 v
  exact ⟨_, h3, h4, (turned_put _ _ _).trans (turned_put _ _ _)⟩
theorem RangeFn.delete' {left : κ → Bool} {cnt : Nat} (h : RangeFn w b r ke f left cnt) (K : KeyOK P kt ke) (ht : P.underlying t = some (.map kt et)) {k : κ} (hk : left k = false) :
    ∃ w1, (∀ kt' ty, (Builtin.delete_ #[t, kt'] ty #[.map (some b), ke k]).run P w = .ok (.tuple #[]) w1) ∧ RangeFn w1 b r ke (upd f k none) left cnt ∧ Turned b w w1 := by
  obtain ⟨o, h1, h2⟩ := h.delete K ht hk 0 0
  refine ⟨put w b o, fun kt' ty => ?_, h2, turned_put _ _ _⟩
  rw [← h1]; rfl
theorem RangeFn.update' {left : κ → Bool} {cnt : Nat} (h : RangeFn w b r ke f left cnt) (K : KeyOK P kt ke) (ht : P.underlying t = some (.map kt et)) {k : κ} (hk : (f k).isSome = true) (v : Value) :
    ∃ w1, (Instr.mapUpdate t (.map (some b)) (ke k) v).run P w = .ok () w1 ∧ RangeFn w1 b r ke (upd f k (some v)) left cnt ∧ Turned b w w1 :=
  let ⟨o, h1, h2⟩ := h.update K ht hk v; ⟨_, h1, h2, turned_put _ _ _⟩

theorem mapFn_new (w : World) : MapFn (w.alloc (.map #[] 0)) w.heap.size ke (fun _ => none) := ⟨#[], 0, heap_alloc_new _ _, Ents.empty _⟩
end
end Go.Tag
