/- The ghost's way to the most frequent words: plainly. -/
import Derived.Test.Qxb6500357aTop
namespace Go.Tag
open Go.Proofs.Qxb6500357a
set_option linter.unusedVariables false
set_option linter.unusedSimpArgs false

def blk (c : Word → Nat) (ws : List Word) (f : Nat) : List Word := ws.filter fun u => decide (c u = f)
/-- The blocks of the frequencies above 6 - k. -/
def preN (c : Word → Nat) (ws : List Word) : Nat → List Word
  | 0 => []
  | k + 1 => preN c ws k ++ blk c ws (6 - k)
theorem preN_mem (c : Word → Nat) (ws : List Word) (u : Word) : ∀ k, k ≤ 6 → (u ∈ preN c ws k ↔ u ∈ ws ∧ 6 - k < c u ∧ c u ≤ 6)
  | 0, _ => by
    constructor
    · intro h; simp [preN] at h
    · rintro ⟨_, h1, h2⟩; omega
  | k + 1, hk => by
    unfold preN
    rw [List.mem_append, preN_mem c ws u k (by omega)]
    unfold blk
    rw [List.mem_filter, decide_eq_true_eq]
    constructor
    · rintro (⟨h1, h2⟩ | ⟨h1, h2⟩)
      · exact ⟨h1, by omega⟩
      · exact ⟨h1, by omega⟩
    · rintro ⟨h1, h2⟩
      by_cases e : c u = 6 - k
      · exact .inr ⟨h1, e⟩
      · exact .inl ⟨h1, by omega⟩
theorem preN_sorted (c : Word → Nat) (ws : List Word) (hs : ws.Pairwise (· < ·)) : ∀ k, k ≤ 6 → (preN c ws k).Pairwise (fun a b => aheadC c a b = true)
  | 0, _ => List.Pairwise.nil
  | k + 1, hk => by
    unfold preN
    rw [List.pairwise_append]
    refine ⟨preN_sorted c ws hs k (by omega), ?_, fun a ha b hb => ?_⟩
    · unfold blk
      have h1 := List.Pairwise.filter (fun u => decide (c u = 6 - k)) hs
      refine List.Pairwise.imp_of_mem (fun ha hb h => ?_) h1
      have ha := (List.mem_filter.1 ha).2
      have hb := (List.mem_filter.1 hb).2
      simp only [decide_eq_true_eq] at ha hb
      unfold aheadC
      rw [if_pos (by omega)]; simpa using h
    · have h1 := (preN_mem c ws a k (by omega)).1 ha
      unfold blk at hb
      have h2 := (List.mem_filter.1 hb).2
      simp only [decide_eq_true_eq] at h2
      unfold aheadC
      rw [if_neg (by omega)]; simp; omega
theorem preN_six (c : Word → Nat) (ws : List Word) (hs : ws.Pairwise (· < ·)) (hc : ∀ u ∈ ws, 1 ≤ c u ∧ c u ≤ 6) : preN c ws 6 = rankL c ws := by
  refine rank_unique c (pw_to hs (fun h e => by subst e; exact wlt_irr _ h)) (preN_sorted c ws hs 6 (by omega)) (fun u => ?_)
  rw [preN_mem c ws u 6 (by omega)]
  constructor
  · exact fun h => h.1
  · intro h; have := hc u h; exact ⟨h, by omega⟩
theorem cntW_six {s : St} {B : Int} (h : Fine s B) (u : Word) (hu : u ∈ s.words) : 1 ≤ cntW (hasOf s) u ∧ cntW (hasOf s) u ≤ 6 := by
  have h1 := (words_mem s u).1 hu
  refine ⟨by omega, ?_⟩
  have h2 := h.size
  have e : idsAll.filter (hasOf s u) = s.ids.filter (hasOf s u) := by
    unfold St.ids
    rw [List.filter_filter]
    refine List.filter_congr fun i _ => ?_
    cases hd : s.docs i with
    | none => rw [hasOf_none hd]; simp
    | some d => simp
  unfold cntW
  rw [e]
  have := List.length_filter_le (hasOf s u) s.ids
  omega
/-- What has been taken behind i words of frequency 6 - k. -/
def tookN (c : Word → Nat) (ws : List Word) (k i : Nat) : List Word := (preN c ws k ++ blk c (ws.take i) (6 - k)).take 4
theorem tookN_zero (c : Word → Nat) (ws : List Word) (k : Nat) : tookN c ws k 0 = (preN c ws k).take 4 := by unfold tookN blk; simp
theorem tookN_le (c : Word → Nat) (ws : List Word) (k i : Nat) : (tookN c ws k i).length ≤ 4 := by unfold tookN; simp; omega
theorem tookN_all (c : Word → Nat) (ws : List Word) (k i : Nat) (h : ws.length ≤ i) : tookN c ws k i = (preN c ws (k + 1)).take 4 := by
  unfold tookN; rw [List.take_of_length_le h]; rfl
theorem take_pre {α : Type} {X Y : List α} (h : (X.take 4).length = 4) : (X ++ Y).take 4 = X.take 4 := by
  rw [List.length_take] at h
  exact List.take_append_of_le_length (by omega)
theorem blk_split (c : Word → Nat) (ws : List Word) (i f : Nat) : blk c ws f = blk c (ws.take i) f ++ blk c (ws.drop i) f := by
  unfold blk
  rw [← List.filter_append, List.take_append_drop]
theorem tookN_full (c : Word → Nat) (ws : List Word) (k i : Nat) (h : (tookN c ws k i).length = 4) : tookN c ws k i = (preN c ws (k + 1)).take 4 := by
  unfold tookN at h ⊢
  rw [preN, blk_split c ws i (6 - k), ← List.append_assoc, take_pre h]
theorem tookN_yes (c : Word → Nat) (ws : List Word) (k i : Nat) (hi : i < ws.length) (h : (tookN c ws k i).length < 4) (hc : c ws[i] = 6 - k) : tookN c ws k (i + 1) = tookN c ws k i ++ [ws[i]] := by
  unfold tookN at h ⊢
  rw [List.length_take] at h
  have e : blk c (ws.take (i + 1)) (6 - k) = blk c (ws.take i) (6 - k) ++ [ws[i]] := by
    unfold blk; rw [take_snoc ws i hi, List.filter_append]; simp [hc]
  rw [e, ← List.append_assoc]
  generalize preN c ws k ++ blk c (ws.take i) (6 - k) = X at *
  have hX : X.length < 4 := by omega
  rw [List.take_of_length_le (l := X ++ [ws[i]]) (by simp; omega), List.take_of_length_le (l := X) (by omega)]
theorem tookN_no (c : Word → Nat) (ws : List Word) (k i : Nat) (hi : i < ws.length) (hc : ¬ c ws[i] = 6 - k) : tookN c ws k (i + 1) = tookN c ws k i := by
  unfold tookN
  have e : blk c (ws.take (i + 1)) (6 - k) = blk c (ws.take i) (6 - k) := by
    unfold blk; rw [take_snoc ws i hi, List.filter_append]; simp [hc]
  rw [e]
theorem tookN_mem (c : Word → Nat) (ws : List Word) (k i : Nat) (hk : k ≤ 6) : ∀ u ∈ tookN c ws k i, u ∈ ws := by
  intro u hu
  have h1 := List.mem_of_mem_take hu
  rcases List.mem_append.1 h1 with h | h
  · exact ((preN_mem c ws u k hk).1 h).1
  · exact List.mem_of_mem_take (List.mem_filter.1 h).1
end Go.Tag
