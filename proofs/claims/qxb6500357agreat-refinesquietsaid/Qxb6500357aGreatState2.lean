/- Counting documents: plain lemmas. -/
import Derived.Test.Qxb6500357aGreatState
namespace Go.Tag
set_option linter.unusedVariables false
set_option linter.unusedSimpArgs false

/-- One place of a list without repeats turned: how many meet the test. -/
theorem len_filter_upd {α : Type} [DecidableEq α] (p q : α → Bool) (x : α) (h : ∀ i, i ≠ x → p i = q i) : ∀ (l : List α), l.Nodup → x ∈ l → (l.filter p).length + (if q x then 1 else 0) = (l.filter q).length + (if p x then 1 else 0)
  | [], _, hx => by simp at hx
  | a :: l, hn, hx => by
    obtain ⟨ha, hn'⟩ := List.nodup_cons.1 hn
    by_cases hax : a = x
    · subst hax
      have e : l.filter p = l.filter q := List.filter_congr fun i hi => h i (fun e => ha (e ▸ hi))
      simp only [List.filter_cons, e]
      cases p a <;> cases q a <;> simp
    · have hxl : x ∈ l := by
        rcases List.mem_cons.1 hx with e | e
        · exact absurd e.symm hax
        · exact e
      have ih := len_filter_upd p q x h l hn' hxl
      simp only [List.filter_cons, h a hax]
      cases q a <;> simp <;> omega

/-- Is document i there, and in group g? -/
def St.inG (s : St) (g i : Int) : Bool := match s.docs i with | some d => decide (d.group = g) | none => false
theorem inG_some {s : St} {i : Int} {d : Doc} (h : s.docs i = some d) (g : Int) : s.inG g i = decide (d.group = g) := by unfold St.inG; rw [h]
theorem inG_none {s : St} {i : Int} (h : s.docs i = none) (g : Int) : s.inG g i = false := by unfold St.inG; rw [h]

theorem cnt_eq (s : St) (g : Int) : s.cnt g = (idsAll.filter (s.inG g)).length := by
  unfold St.cnt St.ids
  rw [List.filter_filter]
  congr 1
  apply List.filter_congr
  intro i _
  cases h : s.docs i with
  | none => simp [inG_none h, h]
  | some d => simp [inG_some h, h, groupOf_some h]

theorem cnt_le (s : St) (g : Int) : s.cnt g ≤ s.ids.length := by unfold St.cnt; exact List.length_filter_le _ _
theorem ids_le (s : St) : s.ids.length ≤ 9 := by unfold St.ids; exact List.length_filter_le _ _

theorem inG_congr {s t : St} {g i : Int} (h : s.docs i = t.docs i) : s.inG g i = t.inG g i := by unfold St.inG; rw [h]

/-- One document turned: the counts. -/
theorem cnt_upd {s t : St} {id : Int} (hid : 1 ≤ id ∧ id ≤ 9) (h : ∀ i, i ≠ id → s.docs i = t.docs i) (g : Int) : s.cnt g + (if t.inG g id then 1 else 0) = t.cnt g + (if s.inG g id then 1 else 0) := by
  rw [cnt_eq, cnt_eq]
  exact len_filter_upd _ _ id (fun i hi => inG_congr (h i hi)) _ nodup_idsAll ((mem_idsAll id).2 hid)
theorem size_upd {s t : St} {id : Int} (hid : 1 ≤ id ∧ id ≤ 9) (h : ∀ i, i ≠ id → s.docs i = t.docs i) : s.ids.length + (if (t.docs id).isSome then 1 else 0) = t.ids.length + (if (s.docs id).isSome then 1 else 0) := by
  unfold St.ids
  exact len_filter_upd (fun i => (s.docs i).isSome) (fun i => (t.docs i).isSome) id (fun i hi => by simp only [h i hi]) _ nodup_idsAll ((mem_idsAll id).2 hid)

theorem del_docs (s : St) (id : Int) : (s.del id).docs id = none := by simp [St.del]
theorem del_other (s : St) {id i : Int} (h : i ≠ id) : (s.del id).docs i = s.docs i := by simp [St.del, h]
theorem put_docs (s : St) (id : Int) (d : Doc) : (s.put id d).docs id = some d := by simp [St.put]
theorem put_other (s : St) {id i : Int} (d : Doc) (h : i ≠ id) : (s.put id d).docs i = s.docs i := by simp [St.put, h]

theorem del_cnt {s : St} {id : Int} {d : Doc} (hid : 1 ≤ id ∧ id ≤ 9) (hd : s.docs id = some d) (g : Int) : ((s.del id).cnt g : Int) = if g = d.group then (s.cnt g : Int) - 1 else s.cnt g := by
  have := cnt_upd (s := s.del id) (t := s) hid (fun i hi => del_other s hi) g
  rw [inG_some hd, inG_none (del_docs s id)] at this
  by_cases hg : g = d.group
  · rw [if_pos hg]; simp [hg] at this ⊢; omega
  · rw [if_neg hg]; simp [Ne.symm hg] at this ⊢; omega
theorem cnt_pos {s : St} {id : Int} {d : Doc} (hid : 1 ≤ id ∧ id ≤ 9) (hd : s.docs id = some d) : 1 ≤ s.cnt d.group := by
  rw [cnt_eq]
  exact List.length_pos_of_mem (List.mem_filter.2 ⟨(mem_idsAll id).2 hid, by rw [inG_some hd]; simp⟩)

/-- What Del does. -/
def St.delR (s : St) (id : Int) : St := match s.docs id with | some _ => s.del id | none => s
theorem delR_some {s : St} {id : Int} {d : Doc} (h : s.docs id = some d) : s.delR id = s.del id := by unfold St.delR; rw [h]
theorem delR_none {s : St} {id : Int} (h : s.docs id = none) : s.delR id = s := by unfold St.delR; rw [h]

theorem Fine.docs_none {s : St} {B : Int} (h : Fine s B) {id : Int} (hid : ¬ (1 ≤ id ∧ id ≤ 9)) : s.docs id = none := by
  cases hd : s.docs id with
  | none => rfl
  | some d => exact absurd (h.dom id d hd).1 hid
theorem Fine.del {s : St} {B : Int} (h : Fine s B) (id : Int) : Fine (s.del id) B := by
  refine ⟨fun i d hd => ?_, ?_, h.revs, h.out⟩
  · by_cases hi : i = id
    · subst hi; rw [del_docs] at hd; cases hd
    · rw [del_other s hi] at hd; exact h.dom i d hd
  · refine Nat.le_trans ?_ h.size
    have hs : (s.del id).ids.Sublist s.ids := by
      have : (s.del id).ids = s.ids.filter fun i => ((s.del id).docs i).isSome := by
        unfold St.ids
        rw [List.filter_filter]
        refine List.filter_congr fun i _ => ?_
        by_cases hi' : i = id
        · subst hi'; simp [del_docs]
        · rw [del_other s hi']; simp
      rw [this]; exact List.filter_sublist
    exact hs.length_le
theorem Fine.delR {s : St} {B : Int} (h : Fine s B) (id : Int) : Fine (s.delR id) B := by
  unfold St.delR; split
  · exact h.del id
  · exact h

theorem fGroups_del {s : St} {id : Int} {d : Doc} (hid : 1 ≤ id ∧ id ≤ 9) (hd : s.docs id = some d) : fGroups (s.del id) = upd (fGroups s) d.group (if (s.cnt d.group : Int) = 1 then none else some (.int .i64 ((s.cnt d.group : Int) - 1))) := by
  funext g
  unfold fGroups fNum upd
  have h1 := del_cnt hid hd g
  have h2 := cnt_pos hid hd
  simp only []
  rw [h1]
  by_cases hg : g = d.group
  · subst hg
    simp only [if_true]
    by_cases h3 : (s.cnt d.group : Int) = 1
    · rw [if_pos h3, if_pos (by omega)]
    · rw [if_neg h3, if_neg (by omega)]
  · simp [hg]
end Go.Tag
