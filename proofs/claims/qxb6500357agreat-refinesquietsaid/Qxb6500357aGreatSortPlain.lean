/- Insertion sort on lists, as the Go text does it. -/
import Derived.Test.Qxb6500357aGreatRange
namespace Go.Tag
set_option linter.unusedVariables false

section
variable {α : Type} {le : α → α → Prop}

/-- E with x laid in at place k. -/
def layAt (E : List α) (k : Nat) (x : α) : List α := E.take k ++ x :: E.drop k

theorem layAt_len (E : List α) (k : Nat) (x : α) : (layAt E k x).length = E.length + 1 := by simp [layAt]; omega
theorem layAt_get (E : List α) (k : Nat) (x : α) (hk : k ≤ E.length) : (layAt E k x)[k]? = some x := by
  unfold layAt
  rw [List.getElem?_append_right (by simp; omega)]
  simp [Nat.min_eq_left hk]
theorem layAt_lt (E : List α) (k : Nat) (x : α) (hk : k ≤ E.length) {j : Nat} (hj : j < k) : (layAt E k x)[j]? = E[j]? := by
  unfold layAt
  rw [List.getElem?_append_left (by simp; omega), List.getElem?_take, if_pos hj]
theorem layAt_set (E : List α) (k : Nat) (x y : α) (hk : k ≤ E.length) : (layAt E k x).set k y = layAt E k y := by
  unfold layAt
  rw [List.set_append_right _ _ (by simp; omega)]
  simp [Nat.min_eq_left hk]
theorem layAt_down (E : List α) (k : Nat) (h0 : 0 < k) (hk : k - 1 < E.length) : layAt E k E[k - 1] = layAt E (k - 1) E[k - 1] := by
  obtain ⟨j, rfl⟩ : ∃ j, k = j + 1 := ⟨k - 1, by omega⟩
  simp only [Nat.add_sub_cancel] at hk ⊢
  unfold layAt
  rw [List.take_succ_eq_append_getElem hk, List.append_assoc, List.singleton_append]
  congr 2
  exact (List.drop_eq_getElem_cons hk).symm
theorem layAt_perm (E : List α) (k : Nat) (x : α) : (layAt E k x).Perm (x :: E) := by
  unfold layAt
  have h : (E.take k ++ x :: E.drop k).Perm (x :: (E.take k ++ E.drop k)) := List.perm_middle
  rw [List.take_append_drop] at h
  exact h
theorem layAt_erase (A : List α) (i : Nat) (hi : i < A.length) : A = layAt (A.eraseIdx i) i A[i] := by
  unfold layAt
  rw [List.eraseIdx_eq_take_drop_succ]
  have h1 : (A.take i).length = i := by simp; omega
  rw [List.take_append_of_le_length (by omega), List.take_of_length_le (by omega), List.drop_append_of_le_length (by omega), List.drop_of_length_le (by omega), List.nil_append]
  rw [← List.drop_eq_getElem_cons hi, List.take_append_drop]
theorem layAt_map {β : Type} (f : α → β) (E : List α) (k : Nat) (x : α) : (layAt E k x).map f = layAt (E.map f) k (f x) := by simp [layAt, List.map_take, List.map_drop]

/-- The head behind one round is in order. -/
theorem layAt_sorted (E : List α) (i k : Nat) (v : α) (hk : k ≤ i) (hi : i ≤ E.length) (hs : (E.take i).Pairwise le) (hlo : ∀ j (h : j < E.length), j < k → le E[j] v) (hhi : ∀ j (h : j < E.length), k ≤ j → j < i → le v E[j]) :
    ((layAt E k v).take (i + 1)).Pairwise le := by
  have e : (layAt E k v).take (i + 1) = E.take k ++ v :: (E.take i).drop k := by
    unfold layAt
    rw [List.take_append]
    have h1 : (E.take k).length = k := by simp; omega
    rw [List.take_of_length_le (by omega), h1, show i + 1 - k = (i - k) + 1 from by omega, List.take_succ_cons, List.drop_take]
  rw [e]
  have hs' : (E.take k ++ (E.take i).drop k).Pairwise le := by
    have : E.take k ++ (E.take i).drop k = E.take i := by
      have h2 : E.take k = (E.take i).take k := by rw [List.take_take, Nat.min_eq_left hk]
      rw [h2, List.take_append_drop]
    rw [this]; exact hs
  rw [List.pairwise_append] at hs' ⊢
  obtain ⟨p1, p2, p3⟩ := hs'
  refine ⟨p1, ?_, ?_⟩
  · rw [List.pairwise_cons]
    refine ⟨fun a ha => ?_, p2⟩
    obtain ⟨m, hm, rfl⟩ := List.getElem_of_mem ha
    simp only [List.length_drop, List.length_take] at hm
    simp only [List.getElem_drop, List.getElem_take]
    exact hhi (k + m) (by omega) (by omega) (by omega)
  · intro a ha b hb
    rcases List.mem_cons.1 hb with rfl | hb
    · obtain ⟨m, hm, rfl⟩ := List.getElem_of_mem ha
      simp only [List.length_take] at hm
      simp only [List.getElem_take]
      exact hlo m (by omega) (by omega)
    · exact p3 a ha b hb
end

/-- Cells of a slice that is owned, its shape written out. -/
theorem own_cells {w : World} {base : Nat} {e : TypeId} {g cap n : Nat} {xs : List Value} (h : w.ownsRow base e 1 (.slice (some ⟨g, 0, none⟩) n cap) n xs) :
    base ≤ g ∧ g < w.heap.size ∧ (∀ j u, xs[j]? = some u → w.cell? ⟨g, j, none⟩ = some u) ∧ (∀ j, w.frozen? ⟨g, j, none⟩ = false) ∧
      ∀ j u, j < n → (w.setCell ⟨g, j, none⟩ u).ownsRow base e 1 (.slice (some ⟨g, 0, none⟩) n cap) n (xs.set j u) := by
  obtain ⟨h1, h2⟩ := h
  rcases h2 with ⟨hv, h0⟩ | ⟨g', cap', cur, hv, hg, hh, hnc, hcm, hsz, htk⟩
  · cases hv
  · simp only [Value.slice.injEq, Option.some.injEq, Addr.mk.injEq] at hv
    obtain ⟨⟨rfl, _⟩, _, rfl⟩ := hv
    refine ⟨hg, lt_of_heap hh, ?_, frozen_of_heap hh, ?_⟩
    · intro j u hj
      rw [Nat.mul_one] at htk h1
      have hlt : j < xs.length := (List.getElem?_eq_some_iff.1 hj).1
      have e : cur[j]? = xs[j]? := by
        rw [← htk, List.getElem?_take, if_pos (by omega)]; simp
      rw [cell_of_heap hh, e, hj]
    · intro j u hj
      refine ⟨by simpa using h1, .inr ⟨g, cap, cur.setIfInBounds j u, rfl, hg, heap_setCell_same hh j u, hnc, hcm, by simpa using hsz, ?_⟩⟩
      rw [← htk]
      apply List.ext_getElem?
      intro i
      simp only [Array.toList_setIfInBounds, List.getElem?_take, List.getElem?_set, List.length_take]
      by_cases hi : i < n * 1
      · simp only [hi, if_true]
        by_cases hji : j = i
        · subst hji
          have h3 : j < cur.size := by omega
          simp [h3]; omega
        · simp [hji]
      · simp only [hi, if_false]
        rw [if_neg (by omega)]
end Go.Tag
