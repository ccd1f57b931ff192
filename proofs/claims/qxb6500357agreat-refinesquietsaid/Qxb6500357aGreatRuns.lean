/- Where a word stands in a text: plainly. -/
import Derived.Test.Qxb6500357aGreatWords
namespace Go.Tag
set_option linter.unusedVariables false
set_option linter.unusedSimpArgs false

/-- u is a run of l between blanks or ends. -/
def IsRun (l u : Word) : Prop := ∃ a b, l = a ++ u ++ b ∧ (a = [] ∨ ∃ a', a = a' ++ [32]) ∧ (b = [] ∨ ∃ b', b = 32 :: b') ∧ (32 : UInt8) ∉ u ∧ u ≠ []

theorem cut_first {cur t a r : Word} (hc : (32 : UInt8) ∉ cur) (h : cur ++ 32 :: t = a ++ 32 :: r) : (a = cur ∧ t = r) ∨ ∃ a', a = cur ++ 32 :: a' ∧ t = a' ++ 32 :: r := by
  induction cur generalizing a with
  | nil =>
    cases a with
    | nil => simp at h; exact .inl ⟨rfl, h⟩
    | cons x a =>
      simp only [List.nil_append, List.cons_append, List.cons.injEq] at h
      obtain ⟨rfl, h⟩ := h
      exact .inr ⟨a, rfl, h⟩
  | cons c cur ih =>
    cases a with
    | nil =>
      simp only [List.nil_append, List.cons_append, List.cons.injEq] at h
      exact absurd h.1 (fun e => hc (by rw [e]; simp))
    | cons x a =>
      simp only [List.cons_append, List.cons.injEq] at h
      obtain ⟨rfl, h⟩ := h
      rcases ih (fun e => hc (by simp [e])) h with ⟨rfl, rfl⟩ | ⟨a', rfl, rfl⟩
      · exact .inl ⟨rfl, rfl⟩
      · exact .inr ⟨a', rfl, rfl⟩
theorem isRun_blank {cur t u : Word} (hc : (32 : UInt8) ∉ cur) : IsRun (cur ++ 32 :: t) u ↔ (u = cur ∧ cur ≠ []) ∨ IsRun t u := by
  constructor
  · rintro ⟨a, b, he, ha, hb, hu, hne⟩
    rcases ha with rfl | ⟨a', rfl⟩
    · rcases hb with rfl | ⟨b', rfl⟩
      · simp only [List.nil_append, List.append_nil] at he
        exact absurd (show (32 : UInt8) ∈ u by rw [← he]; simp) hu
      · simp only [List.nil_append] at he
        rcases cut_first hc he with ⟨rfl, _⟩ | ⟨a', rfl, _⟩
        · exact .inl ⟨rfl, hne⟩
        · exact absurd (by simp) hu
    · right
      have he' : cur ++ 32 :: t = a' ++ 32 :: (u ++ b) := by rw [he]; simp
      rcases cut_first hc he' with ⟨rfl, rfl⟩ | ⟨a'', rfl, rfl⟩
      · exact ⟨[], b, by simp, .inl rfl, hb, hu, hne⟩
      · exact ⟨a'' ++ [32], b, by simp, .inr ⟨a'', rfl⟩, hb, hu, hne⟩
  · rintro (⟨rfl, hne⟩ | ⟨a, b, rfl, ha, hb, hu, hne⟩)
    · exact ⟨[], 32 :: t, by simp, .inl rfl, .inr ⟨t, rfl⟩, hc, hne⟩
    · refine ⟨cur ++ 32 :: a, b, by simp, .inr ?_, hb, hu, hne⟩
      rcases ha with rfl | ⟨a', rfl⟩
      · exact ⟨cur, rfl⟩
      · exact ⟨cur ++ 32 :: a', by simp⟩
theorem isRun_whole {cur u : Word} (hc : (32 : UInt8) ∉ cur) : IsRun cur u ↔ u = cur ∧ cur ≠ [] := by
  constructor
  · rintro ⟨a, b, rfl, ha, hb, hu, hne⟩
    rcases ha with rfl | ⟨a', rfl⟩
    · rcases hb with rfl | ⟨b', rfl⟩
      · simp [hne]
      · exact absurd (by simp) hc
    · exact absurd (by simp) hc
  · rintro ⟨rfl, hne⟩
    exact ⟨[], [], by simp, .inl rfl, .inl rfl, hc, hne⟩
theorem splitGo_run (u : Word) : ∀ (t cur : Word) (acc : List Word), (32 : UInt8) ∉ cur → (u ∈ splitGo t cur acc ↔ u ∈ acc ∨ IsRun (cur ++ t) u)
  | [], cur, acc, hc => by
    unfold splitGo
    rw [addW_mem, List.append_nil, isRun_whole hc]
  | c :: t, cur, acc, hc => by
    unfold splitGo
    by_cases h : c = 32
    · subst h
      rw [if_pos rfl, splitGo_run u t [] (addW acc cur) (by simp), addW_mem, isRun_blank hc, List.nil_append]
      constructor
      · rintro ((h | ⟨rfl, h⟩) | h)
        · exact .inl h
        · exact .inr (.inl ⟨rfl, h⟩)
        · exact .inr (.inr h)
      · rintro (h | ⟨rfl, h⟩ | h)
        · exact .inl (.inl h)
        · exact .inl (.inr ⟨rfl, h⟩)
        · exact .inr h
    · rw [if_neg h, splitGo_run u t (cur ++ [c]) acc (by simp only [List.mem_append, List.mem_singleton, not_or]; exact ⟨hc, Ne.symm h⟩)]
      simp
theorem wordsOf_run (t u : Word) : u ∈ wordsOf t ↔ IsRun t u := by
  unfold wordsOf
  rw [splitGo_run u t [] [] (by simp)]
  simp

/-- The word stands at place i. -/
def StandsAt (t u : Word) (i : Nat) : Prop := (i = 0 ∨ ∃ h : i - 1 < t.length, t[i - 1] = 32) ∧ (i + u.length = t.length ∨ ∃ h : i + u.length < t.length, t[i + u.length] = 32) ∧ (t.take (i + u.length)).drop i = u
theorem stands_iff {t u : Word} (hne : u ≠ []) (hu : (32 : UInt8) ∉ u) : u ∈ wordsOf t ↔ ∃ i, i + u.length ≤ t.length ∧ StandsAt t u i := by
  rw [wordsOf_run]
  constructor
  · rintro ⟨a, b, rfl, ha, hb, -, -⟩
    refine ⟨a.length, by simp, ?_, ?_, ?_⟩
    · rcases ha with rfl | ⟨a', rfl⟩
      · exact .inl rfl
      · right
        exact ⟨by simp, by simp⟩
    · rcases hb with rfl | ⟨b', rfl⟩
      · left; simp
      · right
        refine ⟨by simp, ?_⟩
        rw [List.getElem_append_right (by simp)]
        simp
    · rw [show a.length + u.length = (a ++ u).length by simp, List.take_left, List.drop_left]
  · rintro ⟨i, hi, h1, h2, h3⟩
    refine ⟨t.take i, t.drop (i + u.length), ?_, ?_, ?_, hu, hne⟩
    · have e1 : t.take i ++ u = t.take (i + u.length) := by
        have : (t.take (i + u.length)).take i = t.take i := by rw [List.take_take]; congr 1; omega
        rw [← this]
        conv => lhs; arg 2; rw [← h3]
        exact List.take_append_drop i _
      rw [e1, List.take_append_drop]
    · rcases h1 with rfl | ⟨h, e⟩
      · left; simp
      · by_cases h0 : i = 0
        · left; rw [h0]; simp
        · right
          refine ⟨t.take (i - 1), ?_⟩
          have := take_snoc t (i - 1) h
          rw [show i - 1 + 1 = i by omega, e] at this
          exact this
    · rcases h2 with h | ⟨h, e⟩
      · left; rw [h]; simp
      · right
        refine ⟨t.drop (i + u.length + 1), ?_⟩
        rw [← e]
        exact (List.getElem_cons_drop (h := h)).symm
end Go.Tag
