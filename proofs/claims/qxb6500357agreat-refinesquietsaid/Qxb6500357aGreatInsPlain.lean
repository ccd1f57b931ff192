/- Laying each in at its place: plain lemmas. -/
import Derived.Test.Qxb6500357aGreatSortPlain
import Derived.Test.Qxb6500357aGreatRangeM
namespace Go.Tag
open Go.RowKit
set_option linter.unusedVariables false
set_option linter.unusedSimpArgs false

section
variable {α : Type} {lt : α → α → Prop}

theorem sorted_unique (irr : ∀ a, ¬ lt a a) (as : ∀ a b, lt a b → ¬ lt b a) : ∀ (l l' : List α), l.Pairwise lt → l'.Pairwise lt → (∀ x, x ∈ l ↔ x ∈ l') → l = l'
  | [], [], _, _, _ => rfl
  | [], b :: l', _, _, h => absurd ((h b).2 (by simp)) (by simp)
  | a :: l, [], _, _, h => absurd ((h a).1 (by simp)) (by simp)
  | a :: l, b :: l', h1, h2, h => by
    rw [List.pairwise_cons] at h1 h2
    have hab : a = b := by
      rcases List.mem_cons.1 ((h a).1 (by simp)) with e | e
      · exact e
      · rcases List.mem_cons.1 ((h b).2 (by simp)) with e' | e'
        · exact e'.symm
        · exact absurd (h1.1 b e') (as _ _ (h2.1 a e))
    subst hab
    rw [sorted_unique irr as l l' h1.2 h2.2 fun x => ?_]
    have hx := h x
    simp only [List.mem_cons] at hx
    constructor
    · intro hm
      rcases hx.1 (.inr hm) with e | e
      · subst e; exact absurd (h1.1 x hm) (irr x)
      · exact e
    · intro hm
      rcases hx.2 (.inr hm) with e | e
      · subst e; exact absurd (h2.1 x hm) (irr x)
      · exact e

/-- What is behind place k goes behind y. -/
def Above (lt : α → α → Prop) (E : List α) (k : Nat) (y : α) : Prop := ∀ j (h : j < E.length), k ≤ j → lt y E[j]
theorem above_start (E : List α) (y : α) : Above lt E E.length y := fun j h h' => by omega
theorem above_down {E : List α} {k : Nat} {y : α} (h : Above lt E k y) (h0 : 0 < k) (hk : k - 1 < E.length) (hy : lt y E[k - 1]) : Above lt E (k - 1) y := fun j hj h' => by
  by_cases e : j = k - 1
  · subst e; exact hy
  · exact h j hj (by omega)
theorem lay_sorted (tr : ∀ a b c, lt a b → lt b c → lt a c) {E : List α} {k : Nat} {y : α} (hs : E.Pairwise lt) (hk : k ≤ E.length) (ha : Above lt E k y) (hend : k = 0 ∨ ∃ (h : 0 < k) (h' : k - 1 < E.length), lt E[k - 1] y) : (layAt E k y).Pairwise lt := by
  have := layAt_sorted (le := lt) E E.length k y hk (Nat.le_refl _) (by rw [List.take_length]; exact hs) (fun j h hjk => ?_) (fun j h h1 h2 => ha j h h1)
  · rwa [List.take_of_length_le (by rw [layAt_len]; omega)] at this
  · rcases hend with rfl | ⟨h0, h', hlt⟩
    · omega
    · by_cases e : j = k - 1
      · subst e; exact hlt
      · rw [List.pairwise_iff_getElem] at hs
        exact tr _ _ _ (hs j (k - 1) h h' (by omega)) hlt
theorem lay_mem (E : List α) (k : Nat) (y x : α) : x ∈ layAt E k y ↔ x = y ∨ x ∈ E := by
  rw [(layAt_perm E k y).mem_iff, List.mem_cons]
theorem lay_end (E : List α) (y : α) : layAt E E.length y = E ++ [y] := by simp [layAt]
theorem layAt_gt (E : List α) (k : Nat) (x : α) (hk : k ≤ E.length) {j : Nat} (hj : k < j) : (layAt E k x)[j]? = E[j - 1]? := by
  unfold layAt
  rw [List.getElem?_append_right (by simp; omega)]
  have : (E.take k).length = k := by simp; omega
  rw [this, show j - k = (j - k - 1) + 1 from by omega, List.getElem?_cons_succ, List.getElem?_drop]
  congr 1; omega
/-- The exchange. -/
theorem lay_swap (E : List α) (k : Nat) (y : α) (h0 : 0 < k) (hk : k - 1 < E.length) : ((layAt E k y).set (k - 1) y).set k E[k - 1] = layAt E (k - 1) y := by
  apply List.ext_getElem?
  intro j
  rw [List.getElem?_set, List.getElem?_set]
  have hl := layAt_len E k y
  simp only [List.length_set]
  by_cases h1 : k = j
  · subst h1
    rw [if_pos rfl, if_pos (by omega), layAt_gt E (k - 1) y (by omega) (by omega)]
    simp [hk]
  · rw [if_neg h1]
    by_cases h2 : k - 1 = j
    · subst h2; rw [if_pos rfl, if_pos (by omega), layAt_get E (k - 1) y (by omega)]
    · rw [if_neg h2]
      by_cases h3 : j < k - 1
      · rw [layAt_lt E k y (by omega) (by omega), layAt_lt E (k - 1) y (by omega) h3]
      · rw [layAt_gt E k y (by omega) (by omega), layAt_gt E (k - 1) y (by omega) (by omega)]
end

/-- Behind some rounds of a range that collects the keys in order: A is what has been collected. -/
structure Gather {κ : Type} [DecidableEq κ] (w : World) (ke : κ → Value) (lt : κ → κ → Prop) (f : κ → Option Value) (b r : Nat) (N : Nat) (e : TypeId) (vk : κ → Value) (v : Value) (A : List κ) (left : κ → Bool) (cnt : Nat) (wr : World) : Prop where
  range : RangeFn wr b r ke f left cnt
  sorted : A.Pairwise lt
  mem : ∀ k, k ∈ A ↔ (f k).isSome = true ∧ left k = false
  own : wr.ownsRow (w.heap.size + 1) e 1 v A.length (A.map vk)
  fr : Fr No w wr
  big : w.heap.size + 1 ≤ wr.heap.size
  num : A.length + cnt = N

theorem Gather.done {κ : Type} [DecidableEq κ] {w wr : World} {ke : κ → Value} {lt : κ → κ → Prop} {f : κ → Option Value} {b r N : Nat} {e : TypeId} {vk : κ → Value} {v : Value} {A : List κ} {left : κ → Bool} {cnt : Nat} (h : Gather w ke lt f b r N e vk v A left cnt wr)
    (irr : ∀ a, ¬ lt a a) (as : ∀ a b, lt a b → ¬ lt b a) (hl : ∀ k, left k = false) {ks : List κ} (hs : ks.Pairwise lt) (hm : ∀ k, k ∈ ks ↔ (f k).isSome = true) : A = ks :=
  sorted_unique irr as A ks h.sorted hs fun k => by rw [h.mem, hm, hl]; simp
/-- Behind the step and the append. -/
theorem gather_grow {κ : Type} [DecidableEq κ] {w wr w1 w2 : World} {ke : κ → Value} {lt : κ → κ → Prop} {f : κ → Option Value} {b N : Nat} {e : TypeId} {vk : κ → Value} {v : Value} {A : List κ} {left left' : κ → Bool} {cnt cnt' : Nat} {o : Obj}
    (h : Gather w ke lt f b w.heap.size N e vk v A left cnt wr) (hb : b < w.heap.size) (hR1 : RangeFn w1 b w.heap.size ke f left' cnt') (hF1 : Fr (fun i => i = w.heap.size) wr w1) (hg : (w1.alloc o).grownBy w2 v.ownBlock) :
    RangeFn w2 b w.heap.size ke f left' cnt' ∧ Fr No w w2 ∧ w.heap.size + 1 ≤ w2.heap.size := by
  have hbig := h.big
  have h1 := hF1.size
  have hfr : Fr (fun k => k = w.heap.size ∨ v.ownBlock = some k) wr w2 := ((hF1.mono (fun k _ e => .inl e)).alloc _).grown hg (fun k hk => .inr (.inr hk))
  refine ⟨hR1.keep ?_ ?_, h.fr.trans' hfr ?_, by have := hfr.size; omega⟩
  · rw [hg.block _ (by simp; omega) (fun e => by have := own_ge h.own e.symm; omega), Below.heap_alloc _ _ _ (by omega)]
  · rw [hg.block _ (by simp; omega) (fun e => by have := own_ge h.own e.symm; omega), Below.heap_alloc _ _ _ (by omega)]
  · rintro i hi (e | e)
    · omega
    · have := own_ge h.own e; omega
/-- The key laid in. -/
theorem gather_step {κ : Type} [DecidableEq κ] {w wr w2 w3 : World} {ke : κ → Value} {lt : κ → κ → Prop} {f : κ → Option Value} {b N : Nat} {e : TypeId} {vk : κ → Value} {v v' : Value} {A A' : List κ} {left : κ → Bool} {cnt : Nat} {S : Nat → Prop} {k : κ} {x : Value}
    (h : Gather w ke lt f b w.heap.size N e vk v A left cnt wr) (hb : b < w.heap.size) (hk : left k = true) (hf : f k = some x) (hc : 0 < cnt) (hR2 : RangeFn w2 b w.heap.size ke f (fun j => left j && !decide (j = k)) (cnt - 1)) (hF2 : Fr No w w2) (hb2 : w.heap.size + 1 ≤ w2.heap.size)
    (hF3 : Fr S w2 w3) (hS : ∀ i, S i → w.heap.size < i) (hs : A'.Pairwise lt) (hm : ∀ j, j ∈ A' ↔ j = k ∨ j ∈ A) (hl : A'.length = A.length + 1) (ho : w3.ownsRow (w.heap.size + 1) e 1 v' A'.length (A'.map vk)) :
    Gather w ke lt f b w.heap.size N e vk v' A' (fun j => left j && !decide (j = k)) (cnt - 1) w3 ∧ toGo b w.heap.size w3 < toGo b w.heap.size wr := by
  have hn := h.num
  have hR3 : RangeFn w3 b w.heap.size ke f (fun j => left j && !decide (j = k)) (cnt - 1) := hR2.fr hF3 (fun e => by have := hS _ e; omega) (fun e => by have := hS _ e; omega)
  refine ⟨⟨hR3, hs, fun j => ?_, ho, hF2.trans' hF3 (fun i hi e => by have := hS _ e; omega), by have := hF3.size; omega, by omega⟩, ?_⟩
  · rw [hm, h.mem]
    by_cases hj : j = k
    · subst hj; simp [hf, hk]
    · simp [hj]
  · rw [hR3.toGo, h.range.toGo]; omega
theorem ids_sorted (s : St) : s.ids.Pairwise (· < ·) := List.Pairwise.sublist List.filter_sublist (by decide : idsAll.Pairwise (· < ·))
end Go.Tag
