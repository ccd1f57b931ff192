/- The model's Put, plainly. -/
import Derived.Test.Qxb6500357aGreatMSt3
namespace Go.Tag
open Go.RowKit Go.Proofs.Qxb6500357aGreat
set_option linter.unusedVariables false
set_option linter.unusedSimpArgs false
theorem own_cells3 {w : World} {base : Nat} {e : TypeId} {g cap n : Nat} {xs : List Value} (h : w.ownsRow base e 3 (.slice (some ⟨g, 0, none⟩) n cap) n xs) :
    base ≤ g ∧ g < w.heap.size ∧ (∀ j u, xs[j]? = some u → w.cell? ⟨g, j, none⟩ = some u) ∧ (∀ j, w.frozen? ⟨g, j, none⟩ = false) ∧
      ∀ j u, j < n * 3 → (w.setCell ⟨g, j, none⟩ u).ownsRow base e 3 (.slice (some ⟨g, 0, none⟩) n cap) n (xs.set j u) := by
  obtain ⟨h1, h2⟩ := h
  rcases h2 with ⟨hv, h0⟩ | ⟨g', cap', cur, hv, hg, hh, hnc, hcm, hsz, htk⟩
  · cases hv
  · simp only [Value.slice.injEq, Option.some.injEq, Addr.mk.injEq] at hv
    obtain ⟨⟨rfl, _⟩, _, rfl⟩ := hv
    refine ⟨hg, lt_of_heap hh, ?_, frozen_of_heap hh, ?_⟩
    · intro j u hj
      have hlt : j < xs.length := (List.getElem?_eq_some_iff.1 hj).1
      have e : cur[j]? = xs[j]? := by
        rw [← htk, List.getElem?_take, if_pos (by omega)]; simp
      rw [cell_of_heap hh, e]; exact hj
    · intro j u hj
      refine ⟨by rw [List.length_set]; exact h1, .inr ⟨g, cap, cur.setIfInBounds j u, rfl, hg, heap_setCell_same hh j u, hnc, hcm, by simpa using hsz, ?_⟩⟩
      rw [← htk]
      apply List.ext_getElem?
      intro i
      simp only [Array.toList_setIfInBounds, List.getElem?_take, List.getElem?_set, List.length_take]
      by_cases hi : i < n * 3
      · simp only [hi, if_true]
        by_cases hji : j = i
        · subst hji
          have h3 : j < cur.size := by omega
          simp [h3]; omega
        · simp [hji]
      · simp only [hi, if_false]
        rw [if_neg (by omega)]
theorem own_slice {w : World} {base : Nat} {e : TypeId} {n : Nat} {v : Value} {xs : List Value} {size : Nat} (h : w.ownsRow base e size v n xs) : ∃ ao co, v = .slice ao n co := by
  rcases h.2 with ⟨e1, e2⟩ | ⟨g, cap, cur, e1, -⟩
  · exact ⟨none, 0, by rw [e1, e2]⟩
  · exact ⟨_, _, e1⟩
theorem set_three {α : Type} (A C : List α) (x y z x' y' z' : α) (k : Nat) (hk : A.length = k) : (((A ++ [x, y, z] ++ C).set k x').set (k + 1) y').set (k + 2) z' = A ++ [x', y', z'] ++ C := by
  subst hk
  simp [List.set_append]
section
variable {s : St} {B : Int} {id : Int} {d : Doc} {j : Nat}
theorem put_mem (s : St) (id : Int) (d : Doc) (hid : 1 ≤ id ∧ id ≤ 9) (i : Int) : i ∈ (s.put id d).ids ↔ i = id ∨ i ∈ s.ids := by
  unfold St.ids
  rw [List.mem_filter, List.mem_filter, mem_idsAll]
  show (1 ≤ i ∧ i ≤ 9) ∧ (if i = id then some d else s.docs i).isSome = true ↔ _
  by_cases e : i = id
  · subst e; simp; omega
  · simp [e]
theorem put_ids_new (hp : AtPos s id j) (hid : 1 ≤ id ∧ id ≤ 9) (hn : id ∉ s.ids) : (s.put id d).ids = s.ids.take j ++ [id] ++ s.ids.drop j := by
  refine sorted_unique (lt := (· < ·)) (fun a h => by omega) (fun a b h h' => by omega) _ _ (ids_sorted _) ?_ (fun x => ?_)
  · have hs := ids_sorted s
    rw [List.append_assoc, List.pairwise_append]
    refine ⟨hs.sublist (List.take_sublist _ _), ?_, fun a ha c hc => ?_⟩
    · rw [List.singleton_append, List.pairwise_cons]
      refine ⟨fun a ha => ?_, hs.sublist (List.drop_sublist _ _)⟩
      have h1 := hp.hi a ha
      have h2 : a ≠ id := fun e => hn (e ▸ List.mem_of_mem_drop ha)
      omega
    · have h1 := hp.lo a ha
      rw [List.singleton_append, List.mem_cons] at hc
      rcases hc with rfl | hc
      · exact h1
      · have := hp.hi c hc; omega
  · rw [put_mem s id d hid, List.mem_append, List.mem_append, List.mem_singleton]
    conv => lhs; rw [← List.take_append_drop j s.ids, List.mem_append]
    constructor
    · rintro (h | h | h)
      · exact .inl (.inr h)
      · exact .inl (.inl h)
      · exact .inr h
    · rintro ((h | h) | h)
      · exact .inr (.inl h)
      · exact .inl h
      · exact .inr (.inr h)
theorem put_ids_old (hid : 1 ≤ id ∧ id ≤ 9) (hn : id ∈ s.ids) : (s.put id d).ids = s.ids := by
  refine sorted_unique (lt := (· < ·)) (fun a h => by omega) (fun a b h h' => by omega) _ _ (ids_sorted _) (ids_sorted _) (fun x => ?_)
  rw [put_mem s id d hid]
  constructor
  · rintro (rfl | h)
    · exact hn
    · exact h
  · exact .inr
theorem put_docF_other {l : List Int} (h : id ∉ l) : docF (s.put id d) l = docF s l := docF_congr fun i hi => by
  show (if i = id then some d else s.docs i) = _
  rw [if_neg (fun e : i = id => h (e ▸ hi))]
theorem put_docC : docC (s.put id d) id = [.int .i64 id, .int .i64 d.group, .string (str d.text)] := by
  unfold docC St.groupOf St.textOf St.put; simp
theorem put_new (hp : AtPos s id j) (hid : 1 ≤ id ∧ id ≤ 9) (hn : id ∉ s.ids) : (s.put id d).ids.length = s.ids.length + 1 ∧ docF (s.put id d) (s.put id d).ids = docF s (s.ids.take j) ++ [.int .i64 id, .int .i64 d.group, .string (str d.text)] ++ docF s (s.ids.drop j) := by
  have e := put_ids_new (d := d) hp hid hn
  constructor
  · rw [e, List.length_append, List.length_append, List.length_take, List.length_drop]
    have := hp.le
    simp; omega
  · rw [e, docF_append, docF_append, put_docF_other (fun h => hn (List.mem_of_mem_take h)), put_docF_other (fun h => hn (List.mem_of_mem_drop h)), ← put_docC (s := s)]
    simp [docF]
theorem ids_cut (s : St) (h : j < s.ids.length) : docF s s.ids = docF s (s.ids.take j) ++ docC s s.ids[j] ++ docF s (s.ids.drop (j + 1)) := by
  conv => lhs; rw [← List.take_append_drop j s.ids, List.drop_eq_getElem_cons h]
  rw [docF_append]
  have : docF s (s.ids[j] :: s.ids.drop (j + 1)) = docC s s.ids[j] ++ docF s (s.ids.drop (j + 1)) := rfl
  rw [this, List.append_assoc]
theorem put_old (hid : 1 ≤ id ∧ id ≤ 9) (h : j < s.ids.length) (hj : s.ids[j] = id) : (s.put id d).ids.length = s.ids.length ∧ docF (s.put id d) (s.put id d).ids = docF s (s.ids.take j) ++ [.int .i64 id, .int .i64 d.group, .string (str d.text)] ++ docF s (s.ids.drop (j + 1)) := by
  have hm : id ∈ s.ids := hj ▸ List.getElem_mem h
  have e := put_ids_old (d := d) hid hm
  have hs := ids_sorted s
  have hn1 : id ∉ s.ids.take j := fun hx => by
    obtain ⟨k, hk, e⟩ := List.mem_iff_getElem.1 hx
    rw [List.getElem_take] at e
    rw [List.length_take] at hk
    have := List.pairwise_iff_getElem.1 hs k j (by omega) h (by omega)
    omega
  have hn2 : id ∉ s.ids.drop (j + 1) := fun hx => by
    obtain ⟨k, hk, e⟩ := List.mem_iff_getElem.1 hx
    rw [List.getElem_drop] at e
    rw [List.length_drop] at hk
    have := List.pairwise_iff_getElem.1 hs j (j + 1 + k) h (by omega) (by omega)
    omega
  constructor
  · rw [e]
  · rw [e]
    conv => lhs; rw [← List.take_append_drop j s.ids, List.drop_eq_getElem_cons h]
    rw [docF_append, put_docF_other hn1]
    have : docF (s.put id d) (s.ids[j] :: s.ids.drop (j + 1)) = docC (s.put id d) s.ids[j] ++ docF (s.put id d) (s.ids.drop (j + 1)) := rfl
    rw [this, hj, put_docC, put_docF_other hn2, List.append_assoc]
theorem del_docs_ids (hid : 1 ≤ id ∧ id ≤ 9) (h : j < s.ids.length) (hj : s.ids[j] = id) : (s.del id).ids = s.ids.take j ++ s.ids.drop (j + 1) ∧ docF (s.del id) (s.del id).ids = docF s (s.ids.take j) ++ docF s (s.ids.drop (j + 1)) := by
  have hs := ids_sorted s
  have e : (s.del id).ids = s.ids.take j ++ s.ids.drop (j + 1) := by
    refine sorted_unique (lt := (· < ·)) (fun a h => by omega) (fun a b h h' => by omega) _ _ (ids_sorted _) ?_ (fun x => ?_)
    · have hp := hs
      rw [← List.take_append_drop j s.ids, List.drop_eq_getElem_cons h] at hp
      exact hp.sublist (List.Sublist.append (List.Sublist.refl _) (List.sublist_cons_self _ _))
    · have hx : x ∈ (s.del id).ids ↔ x ≠ id ∧ x ∈ s.ids := by
        unfold St.ids
        rw [List.mem_filter, List.mem_filter]
        show x ∈ idsAll ∧ (if x = id then none else s.docs x).isSome = true ↔ _
        by_cases e : x = id
        · simp [e]
        · simp [e]
      rw [hx]
      conv => lhs; rw [← List.take_append_drop j s.ids, List.drop_eq_getElem_cons h]
      rw [List.mem_append, List.mem_append, List.mem_cons, hj]
      constructor
      · rintro ⟨h1, h2 | h2 | h2⟩
        · exact .inl h2
        · exact absurd h2 h1
        · exact .inr h2
      · rintro (h2 | h2)
        · refine ⟨fun e => ?_, .inl h2⟩
          subst e
          obtain ⟨k, hk, e⟩ := List.mem_iff_getElem.1 h2
          rw [List.getElem_take] at e
          rw [List.length_take] at hk
          have := List.pairwise_iff_getElem.1 hs k j (by omega) h (by omega)
          omega
        · refine ⟨fun e => ?_, .inr (.inr h2)⟩
          subst e
          obtain ⟨k, hk, e⟩ := List.mem_iff_getElem.1 h2
          rw [List.getElem_drop] at e
          rw [List.length_drop] at hk
          have := List.pairwise_iff_getElem.1 hs j (j + 1 + k) h (by omega) (by omega)
          omega
  refine ⟨e, ?_⟩
  rw [← docF_append, ← e]
  refine docF_congr fun i hi => ?_
  unfold St.ids at hi
  rw [List.mem_filter] at hi
  have h2 : (if i = id then none else s.docs i).isSome = true := hi.2
  show (if i = id then none else s.docs i) = _
  split at h2
  · simp at h2
  · rename_i h; rw [if_neg h]
end
/-- As MSat, with any list of m documents. -/
structure MSL (w : World) (F : Nat → Prop) (b : Nat) (s : St) (D : Value) (a : Int) (m : Nat) (xs : List Value) : Prop where
  row : Row12 w b (fM D s a)
  fb : F b
  own : w.ownsRow 0 88 3 D m xs
  fd : ∀ k, D.ownBlock = some k → F k ∧ k ≠ b
  lt : ∀ k, F k → k < w.heap.size
/-- Before the document is laid into its place. -/
def PutMid (w : World) (F : Nat → Prop) (b : Nat) (s s' : St) (id : Int) (d : Doc) (j : Nat) (wx : World) : Prop :=
  ∃ D a A C x y z, MSL wx (fun k => (F k ∨ w.heap.size ≤ k) ∧ k < wx.heap.size) b s D a s'.ids.length (A ++ [x, y, z] ++ C) ∧ A.length = j * 3 ∧ j < s'.ids.length ∧ docF s' s'.ids = A ++ [.int .i64 id, .int .i64 d.group, .string (str d.text)] ++ C ∧ Fr F w wx
end Go.Tag
