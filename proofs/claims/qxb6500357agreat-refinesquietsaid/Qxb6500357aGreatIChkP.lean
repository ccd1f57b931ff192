/- The index's own Check: plain lemmas. -/
import Derived.Test.Qxb6500357aGreatDrop
import Derived.Test.Qxb6500357aGreatIds
import Derived.Test.Qxb6500357aGreatWords
namespace Go.Tag
open Go.RowKit
set_option linter.unusedVariables false
set_option linter.unusedSimpArgs false
theorem sum_upd {α : Type} [DecidableEq α] (f g : α → Nat) (x : α) (h : ∀ i, i ≠ x → f i = g i) : ∀ (l : List α), l.Nodup → x ∈ l → (l.map f).sum + g x = (l.map g).sum + f x
  | [], _, hx => by cases hx
  | a :: l, hn, hx => by
    obtain ⟨h1, h2⟩ := List.nodup_cons.1 hn
    simp only [List.map_cons, List.sum_cons]
    by_cases e : a = x
    · subst e
      have : l.map f = l.map g := List.map_congr_left fun i hi => h i (fun e => h1 (e ▸ hi))
      rw [this]; omega
    · have h3 := sum_upd f g x h l h2 ((List.mem_cons.1 hx).resolve_left (fun e' => e e'.symm))
      have h4 := h a e
      omega
theorem sum_zero {α : Type} (f : α → Nat) : ∀ (l : List α), (∀ i ∈ l, f i = 0) → (l.map f).sum = 0
  | [], _ => rfl
  | a :: l, h => by
    simp only [List.map_cons, List.sum_cons]
    rw [h a (List.mem_cons_self), sum_zero f l (fun i hi => h i (List.mem_cons_of_mem _ hi))]
theorem sum_le {α : Type} (f : α → Nat) (c : Nat) (h : ∀ i, f i ≤ c) : ∀ (l : List α), (l.map f).sum ≤ c * l.length
  | [] => by simp
  | a :: l => by
    have h1 := sum_le f c h l
    have h2 := h a
    simp only [List.map_cons, List.sum_cons, List.length_cons, Nat.mul_succ]
    omega
theorem sum_add {α : Type} (f g : α → Nat) : ∀ (l : List α), (l.map fun i => f i + g i).sum = (l.map f).sum + (l.map g).sum
  | [] => rfl
  | a :: l => by
    simp only [List.map_cons, List.sum_cons]
    rw [sum_add f g l]; omega
theorem len_sum {α : Type} (p : α → Bool) : ∀ (l : List α), (l.filter p).length = (l.map fun i => if p i then 1 else 0).sum
  | [] => rfl
  | a :: l => by
    simp only [List.map_cons, List.sum_cons, List.filter_cons]
    cases h : p a with
    | true => simp only [if_true, List.length_cons]; rw [len_sum p l]; omega
    | false => simp only [Bool.false_eq_true, if_false]; rw [len_sum p l]; omega
theorem sum_swap {α β : Type} (R : α → β → Bool) (B : List β) : ∀ (A : List α), (A.map fun u => (B.filter (R u)).length).sum = (B.map fun i => (A.filter fun u => R u i).length).sum
  | [] => by simp only [List.map_nil, List.sum_nil, List.filter_nil, List.length_nil]; exact (sum_zero _ _ (fun _ _ => rfl)).symm
  | a :: A => by
    simp only [List.map_cons, List.sum_cons]
    rw [sum_swap R B A, len_sum, ← sum_add]
    congr 1
    refine List.map_congr_left fun i _ => ?_
    rw [List.filter_cons]
    cases R a i with
    | true => simp only [if_true, List.length_cons]; omega
    | false => simp
theorem sum_filter {α : Type} (f : α → Nat) (p : α → Bool) : ∀ (l : List α), (∀ i ∈ l, p i = false → f i = 0) → (l.map f).sum = ((l.filter p).map f).sum
  | [], _ => rfl
  | a :: l, h => by
    simp only [List.map_cons, List.sum_cons, List.filter_cons]
    have h1 := sum_filter f p l (fun i hi => h i (List.mem_cons_of_mem _ hi))
    have h2 := h a List.mem_cons_self
    cases hp : p a with
    | true => simp only [if_true, List.map_cons, List.sum_cons]; omega
    | false => simp only [Bool.false_eq_true, if_false]; have := h2 hp; omega

/-- The postings that the first loop has counted. -/
def sumLeft (s : St) (left : Word → Bool) : Nat := (s.words.map fun u => if left u then 0 else cntW (hasOf s) u).sum
def sumDoc (s : St) (q : Nat) : Nat := ((s.ids.drop q).map fun i => (wordsOf (s.textOf i)).length).sum
theorem sumLeft_start (s : St) (q : Word → Nat) : sumLeft s (fun u => (fInv (hasOf s) q u).isSome) = 0 := by
  refine sum_zero _ _ fun u hu => ?_
  simp only [(fInv_mem s q u).1 hu, if_true]
theorem sumLeft_step (s : St) (left : Word → Bool) (k : Word) (hk : k ∈ s.words) (hl : left k = true) : sumLeft s (fun j => left j && !decide (j = k)) = sumLeft s left + cntW (hasOf s) k := by
  have := sum_upd (fun u => if (left u && !decide (u = k)) then 0 else cntW (hasOf s) u) (fun u => if left u then 0 else cntW (hasOf s) u) k (fun i hi => by simp [hi]) s.words (words_nodup s) hk
  simp [hl] at this
  unfold sumLeft
  simpa using this
theorem sumLeft_le {s : St} {B : Int} (h : Fine s B) (left : Word → Bool) : sumLeft s left ≤ 1053 := by
  have h1 := sum_le (fun u => if left u then 0 else cntW (hasOf s) u) 9 (fun u => by have := cntW_le (hasOf s) u; split <;> omega) s.words
  have h2 := words_len h
  unfold sumLeft
  omega
theorem words_at (s : St) (i : Int) (hi : i ∈ idsAll) : (s.words.filter fun u => hasOf s u i).length = (wordsOf (s.textOf i)).length := by
  refine ((List.perm_ext_iff_of_nodup (List.filter_sublist.nodup (words_nodup s)) (wordsOf_nodup _)).2 fun u => ?_).length_eq
  rw [List.mem_filter, hasOf_text, decide_eq_true_eq]
  constructor
  · exact fun h => h.2
  · intro h
    refine ⟨?_, h⟩
    rw [words_mem]
    have := cntW_pos (H := hasOf s) (u := u) (i := i) (by rw [hasOf_text]; simpa using h) ((mem_idsAll i).1 hi)
    omega
theorem sumLeft_end {s : St} {B : Int} (h : Fine s B) (left : Word → Bool) (hl : ∀ u, left u = false) : sumLeft s left = sumDoc s 0 := by
  have e : sumLeft s left = (s.words.map fun u => (idsAll.filter (hasOf s u)).length).sum := by
    unfold sumLeft
    congr 1
    exact List.map_congr_left fun u _ => by rw [hl]; rfl
  rw [e, sum_swap (hasOf s) idsAll s.words]
  have e2 : (idsAll.map fun i => (s.words.filter fun u => hasOf s u i).length) = idsAll.map fun i => (wordsOf (s.textOf i)).length := List.map_congr_left fun i hi => words_at s i hi
  rw [e2]
  unfold sumDoc
  rw [List.drop_zero]
  unfold St.ids
  refine sum_filter _ _ _ fun i _ hp => ?_
  have : s.docs i = none := by cases hd : s.docs i with | none => rfl | some d => rw [hd] at hp; cases hp
  have ht : s.textOf i = [] := by unfold St.textOf; rw [this]
  rw [ht]; rfl
theorem sumDoc_succ (s : St) (q : Nat) (h : q < s.ids.length) : sumDoc s q = (wordsOf (s.textOf s.ids[q])).length + sumDoc s (q + 1) := by
  unfold sumDoc
  rw [List.drop_eq_getElem_cons h, List.map_cons, List.sum_cons]
theorem sumDoc_end (s : St) : sumDoc s s.ids.length = 0 := by unfold sumDoc; rw [List.drop_length]; rfl
theorem sumDoc_le {s : St} {B : Int} (h : Fine s B) : ∀ q, q ≤ s.ids.length → sumDoc s q ≤ 1053
  | 0, _ => by rw [← sumLeft_end h (fun _ => false) (fun _ => rfl)]; exact sumLeft_le h _
  | q + 1, hq => by
    have h1 := sumDoc_le h q (by omega)
    have h2 := sumDoc_succ s q (by omega)
    omega
/-- Who holds what among the first q documents. -/
def hasTo (s : St) (q : Nat) : Has := fun u i => decide (i ∈ s.ids.take q) && hasOf s u i
theorem hasTo_zero (s : St) (grp : Int → Int) (k : Int × Word) : fBy (hasTo s 0) grp k = none := by
  unfold fBy
  rw [if_pos]
  unfold cntBy
  rw [List.length_eq_zero_iff, List.filter_eq_nil_iff]
  intro i _
  simp [hasTo]
theorem hasTo_all {s : St} {B : Int} (h : Fine s B) : hasTo s s.ids.length = hasOf s := by
  funext u i
  unfold hasTo
  rw [List.take_length]
  cases hh : hasOf s u i with
  | false => simp
  | true =>
    have : i ∈ s.ids := by
      rw [mem_ids h]
      cases hd : s.docs i with
      | none => rw [hasOf_none hd] at hh; cases hh
      | some d => rfl
    simp [this]
theorem hasTo_no (s : St) (q : Nat) (h : q < s.ids.length) (u : Word) : hasTo s q u s.ids[q] = false := by
  unfold hasTo
  have : s.ids[q] ∉ s.ids.take q := by
    have h1 := nodup_ids s
    rw [← List.take_append_drop q s.ids, List.nodup_append] at h1
    intro h2
    refine h1.2.2 _ h2 s.ids[q] ?_ rfl
    rw [List.drop_eq_getElem_cons h]; exact List.mem_cons_self
  simp [this]
theorem hasTo_succ (s : St) (q : Nat) (h : q < s.ids.length) : addN (hasTo s q) s.ids[q] (wordsOf (s.textOf s.ids[q])) (wordsOf (s.textOf s.ids[q])).length = hasTo s (q + 1) := by
  funext u i
  have hm : i ∈ s.ids.take (q + 1) ↔ (i ∈ s.ids.take q ∨ i = s.ids[q]) := by rw [take_snoc s.ids q h, List.mem_append, List.mem_singleton]
  unfold addN hasTo
  rw [List.take_length]
  simp only [hm]
  by_cases e : i = s.ids[q]
  · rw [e, hasOf_text]
    by_cases h1 : u ∈ wordsOf (s.textOf s.ids[q]) <;> simp [h1]
  · simp only [e, or_false, decide_false, Bool.false_and, Bool.or_false]
theorem MapFn.keys {κ : Type} [DecidableEq κ] {P : Program} {w : World} {b : Nat} {ke : κ → Value} {f : κ → Option Value} {kt : TypeId} (h : MapFn w b ke f) (K : KeyOK P kt ke) : ∃ ks : List κ, ks.Nodup ∧ ∀ k, k ∈ ks ↔ (f k).isSome = true := by
  obtain ⟨es, clock, -, he⟩ := h
  have h1 : ∀ l : List MapEntry, (∀ e ∈ l, ∃ k, e.key = ke k ∧ f k = some e.val) → ∃ ks : List κ, ks.map ke = l.map (·.key) ∧ ∀ k ∈ ks, (f k).isSome = true := by
    intro l
    induction l with
    | nil => exact fun _ => ⟨[], rfl, by simp⟩
    | cons a l ih =>
      intro hl
      obtain ⟨ks, e1, e2⟩ := ih (fun e he => hl e (List.mem_cons_of_mem _ he))
      obtain ⟨k, k1, k2⟩ := hl a List.mem_cons_self
      refine ⟨k :: ks, by simp [e1, k1], fun j hj => ?_⟩
      rcases List.mem_cons.1 hj with rfl | hj
      · rw [k2]; rfl
      · exact e2 j hj
  obtain ⟨ks, e1, e2⟩ := h1 es.toList he.sound
  refine ⟨ks, ?_, fun k => ⟨e2 k, fun hk => ?_⟩⟩
  · have h2 := he.keys
    rw [← e1, List.nodup_iff_pairwise_ne, List.pairwise_map] at h2
    exact pw_to h2 (fun h e => h (by rw [e]))
  · obtain ⟨v, hv⟩ := Option.isSome_iff_exists.1 hk
    obtain ⟨e, he1, he2, -⟩ := he.whole k v hv
    have h3 : ke k ∈ ks.map ke := by rw [e1]; exact List.mem_map.2 ⟨e, he1, he2⟩
    obtain ⟨k', hk', e3⟩ := List.mem_map.1 h3
    exact (K.inj e3) ▸ hk'
end Go.Tag
