/- Every word that some document holds: plainly. -/
import Derived.Test.Qxb6500357aBoth
import Derived.Test.Qxb6500357aInsPlain
namespace Go.Tag
open Go.RowKit
set_option linter.unusedVariables false
set_option linter.unusedSimpArgs false

/-- u laid into the ascending list at its place, unless it is there. -/
def into : List Word → Word → List Word
  | [], u => [u]
  | a :: l, u => if a < u then a :: into l u else if a = u then a :: l else u :: a :: l
theorem into_mem (u x : Word) : ∀ (l : List Word), x ∈ into l u ↔ x = u ∨ x ∈ l
  | [] => by simp [into]
  | a :: l => by
    unfold into
    have ih := into_mem u x l
    by_cases h1 : a < u
    · rw [if_pos h1, List.mem_cons, ih, List.mem_cons]
      constructor
      · rintro (h | h | h)
        · exact .inr (.inl h)
        · exact .inl h
        · exact .inr (.inr h)
      · rintro (h | h | h)
        · exact .inr (.inl h)
        · exact .inl h
        · exact .inr (.inr h)
    · rw [if_neg h1]
      by_cases h2 : a = u
      · rw [if_pos h2]
        constructor
        · exact .inr
        · rintro (rfl | h)
          · rw [h2]; simp
          · exact h
      · rw [if_neg h2, List.mem_cons]
theorem wlt_of {a u : Word} (h1 : ¬ a < u) (h2 : ¬ a = u) : u < a := by
  rcases Std.lt_trichotomy a u with h | h | h
  · exact absurd h h1
  · exact absurd h h2
  · exact h
theorem wlt_irr (a : Word) : ¬ a < a := List.lt_irrefl a
theorem wlt_as (a b : Word) (h : a < b) : ¬ b < a := List.lt_asymm h
theorem wlt_tr (a b c : Word) (h : a < b) (h' : b < c) : a < c := List.lt_trans h h'
theorem into_sorted (u : Word) : ∀ (l : List Word), l.Pairwise (· < ·) → (into l u).Pairwise (· < ·)
  | [], _ => by simp [into]
  | a :: l, h => by
    rw [List.pairwise_cons] at h
    unfold into
    by_cases h1 : a < u
    · rw [if_pos h1, List.pairwise_cons]
      refine ⟨fun x hx => ?_, into_sorted u l h.2⟩
      rcases (into_mem u x l).1 hx with rfl | hx
      · exact h1
      · exact h.1 x hx
    · rw [if_neg h1]
      by_cases h2 : a = u
      · rw [if_pos h2, List.pairwise_cons]; exact h
      · rw [if_neg h2, List.pairwise_cons, List.pairwise_cons]
        have hua := wlt_of h1 h2
        refine ⟨fun x hx => ?_, h⟩
        rcases List.mem_cons.1 hx with rfl | hx
        · exact hua
        · exact wlt_tr _ _ _ hua (h.1 x hx)
def intoAll (acc : List Word) (ws : List Word) : List Word := ws.foldl into acc
theorem intoAll_mem (x : Word) : ∀ (ws acc : List Word), x ∈ intoAll acc ws ↔ x ∈ acc ∨ x ∈ ws
  | [], acc => by simp [intoAll]
  | u :: ws, acc => by
    have ih := intoAll_mem x ws (into acc u)
    unfold intoAll at ih ⊢
    rw [List.foldl_cons, ih, into_mem, List.mem_cons]
    constructor
    · rintro ((h | h) | h)
      · exact .inr (.inl h)
      · exact .inl h
      · exact .inr (.inr h)
    · rintro (h | h | h)
      · exact .inl (.inr h)
      · exact .inl (.inl h)
      · exact .inr h
theorem intoAll_sorted : ∀ (ws acc : List Word), acc.Pairwise (· < ·) → (intoAll acc ws).Pairwise (· < ·)
  | [], acc, h => h
  | u :: ws, acc, h => intoAll_sorted ws (into acc u) (into_sorted u acc h)
/-- Every word that some document holds, ascending. -/
def St.words (s : St) : List Word := intoAll [] (idsAll.flatMap fun i => wordsOf (s.textOf i))
theorem words_sorted (s : St) : s.words.Pairwise (· < ·) := intoAll_sorted _ _ List.Pairwise.nil
theorem words_nodup (s : St) : s.words.Nodup := pw_to (words_sorted s) (fun h e => by subst e; exact wlt_irr _ h)
theorem hasOf_text (s : St) (u : Word) (i : Int) : hasOf s u i = decide (u ∈ wordsOf (s.textOf i)) := by
  cases hd : s.docs i with
  | none => rw [hasOf_none hd]; unfold St.textOf; rw [hd]; simp [wordsOf, splitGo, addW]
  | some d => rw [hasOf_some hd, textOf_some hd]
theorem words_mem (s : St) (u : Word) : u ∈ s.words ↔ cntW (hasOf s) u ≠ 0 := by
  unfold St.words
  rw [intoAll_mem]
  simp only [List.not_mem_nil, false_or, List.mem_flatMap]
  unfold cntW
  constructor
  · rintro ⟨i, hi, hu⟩
    have : i ∈ idsAll.filter (hasOf s u) := List.mem_filter.2 ⟨hi, by rw [hasOf_text]; simpa using hu⟩
    have := List.length_pos_of_mem this
    omega
  · intro h
    obtain ⟨i, hi⟩ := List.exists_mem_of_length_pos (l := idsAll.filter (hasOf s u)) (by omega)
    obtain ⟨h1, h2⟩ := List.mem_filter.1 hi
    rw [hasOf_text] at h2
    exact ⟨i, h1, by simpa using h2⟩
theorem words_len {s : St} {B : Int} (h : Fine s B) : s.words.length ≤ 117 := by
  have h1 : ∀ (ws acc : List Word), (intoAll acc ws).length ≤ acc.length + ws.length := by
    intro ws
    induction ws with
    | nil => intro acc; simp [intoAll]
    | cons u ws ih =>
      intro acc
      have h2 : ∀ l : List Word, (into l u).length ≤ l.length + 1 := by
        intro l
        induction l with
        | nil => simp [into]
        | cons a l ihl =>
          unfold into
          split
          · simp; omega
          · split <;> simp <;> omega
      have := ih (into acc u)
      have := h2 acc
      unfold intoAll at *
      rw [List.foldl_cons]; simp; omega
  have h3 : ∀ l : List Int, (l.flatMap fun i => wordsOf (s.textOf i)).length ≤ 13 * l.length := by
    intro l
    induction l with
    | nil => simp
    | cons a l ih =>
      have h4 := wordsOf_len (s.textOf a)
      have h5 : (s.textOf a).length ≤ 12 := by
        unfold St.textOf
        cases hd : s.docs a with
        | none => simp
        | some d => exact (h.dom a d hd).2.2.1
      simp only [List.flatMap_cons, List.length_append, List.length_cons]; omega
  have h6 := h3 idsAll
  have h7 := h1 (idsAll.flatMap fun i => wordsOf (s.textOf i)) []
  unfold St.words
  simp [idsAll] at h6 h7 ⊢
  omega
/-- Who holds u, ascending. -/
def St.holders (s : St) (u : Word) : List Int := idsAll.filter (hasOf s u)
theorem holders_sorted (s : St) (u : Word) : (s.holders u).Pairwise (· < ·) := List.Pairwise.sublist List.filter_sublist (by decide : idsAll.Pairwise (· < ·))
theorem holders_len (s : St) (u : Word) : (s.holders u).length = cntW (hasOf s) u := rfl
theorem holders_mem {s : St} {B : Int} (h : Fine s B) (u : Word) (i : Int) : i ∈ s.holders u ↔ hasOf s u i = true := by
  unfold St.holders
  rw [List.mem_filter, mem_idsAll]
  exact ⟨fun h => h.2, fun hu => ⟨hasOf_dom h hu, hu⟩⟩
theorem setB_mem {s : St} {B : Int} (h : Fine s B) (u : Word) (k : Int) : k ∈ s.holders u ↔ (setB (hasOf s u) k).isSome = true := by
  rw [holders_mem h]; unfold setB; cases hasOf s u k <;> simp
theorem fInv_mem (s : St) (q : Word → Nat) (u : Word) : u ∈ s.words ↔ (fInv (hasOf s) q u).isSome = true := by
  rw [words_mem]; unfold fInv; by_cases h : cntW (hasOf s) u = 0 <;> simp [h]
theorem word_len {s : St} {B : Int} (h : Fine s B) {u : Word} (hu : cntW (hasOf s) u ≠ 0) : u ≠ [] ∧ u.length ≤ 12 := by
  obtain ⟨i, hi⟩ := List.exists_mem_of_length_pos (l := s.holders u) (by rw [holders_len]; omega)
  have := (holders_mem h u i).1 hi
  cases hd : s.docs i with
  | none => rw [hasOf_none hd] at this; cases this
  | some d =>
    rw [hasOf_some hd] at this
    have h1 := wordsOf_word d.text u (by simpa using this)
    have h2 := (h.dom i d hd).2.2.1
    exact ⟨h1.1, by omega⟩
theorem holders_long {s : St} {B : Int} (h : Fine s B) {u : Word} (hu : 12 < u.length) : s.holders u = [] := by
  by_cases hc : cntW (hasOf s) u = 0
  · exact List.eq_nil_of_length_eq_zero hc
  · have := (word_len h hc).2; omega
end Go.Tag
