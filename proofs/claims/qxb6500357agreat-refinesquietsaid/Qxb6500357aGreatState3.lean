/- Putting a document: plain lemmas. -/
import Derived.Test.Qxb6500357aGreatState2
namespace Go.Tag
open Go.RowKit
set_option linter.unusedVariables false
set_option linter.unusedSimpArgs false

def St.putErr (s : St) (id g : Int) (t : List UInt8) : Int :=
  if 12 < t.length then 1 else if ¬ (1 ≤ id ∧ id ≤ 9) then 2 else if ¬ (0 ≤ g ∧ g ≤ 2) then 3 else if textOK t = false then 4 else if s.docs id = none ∧ s.ids.length = 6 then 5 else 0
def St.putR (s : St) (id g : Int) (t : List UInt8) : St := if s.putErr id g t = 0 then s.put id ⟨g, t⟩ else s

theorem put_cnt {s : St} {id : Int} {d : Doc} (hid : 1 ≤ id ∧ id ≤ 9) (g : Int) : ((s.put id d).cnt g : Int) = (s.cnt g : Int) - (if s.inG g id then 1 else 0) + (if d.group = g then 1 else 0) := by
  have := cnt_upd (s := s.put id d) (t := s) hid (fun i hi => put_other s d hi) g
  rw [inG_some (put_docs s id d)] at this
  by_cases h1 : s.inG g id = true <;> by_cases h2 : d.group = g <;> simp [h1, h2] at this ⊢ <;> omega
theorem put_idsLen {s : St} {id : Int} {d : Doc} (hid : 1 ≤ id ∧ id ≤ 9) : (s.put id d).ids.length = s.ids.length + (if (s.docs id).isSome then 0 else 1) := by
  have := size_upd (s := s.put id d) (t := s) hid (fun i hi => put_other s d hi)
  rw [put_docs] at this
  by_cases h1 : (s.docs id).isSome = true <;> simp [h1] at this ⊢ <;> omega
theorem Fine.put {s : St} {B : Int} (h : Fine s B) {id : Int} {d : Doc} (hid : 1 ≤ id ∧ id ≤ 9) (hg : 0 ≤ d.group ∧ d.group ≤ 2) (hl : d.text.length ≤ 12) (ht : textOK d.text = true) (hs : ¬ (s.docs id = none ∧ s.ids.length = 6)) : Fine (s.put id d) (B + 1) := by
  refine ⟨fun i d' hd => ?_, ?_, fun i => ?_, fun i hi => ?_⟩
  · by_cases hi : i = id
    · subst hi; rw [put_docs] at hd; cases hd; exact ⟨hid, hg, hl, ht⟩
    · rw [put_other s d hi] at hd; exact h.dom i d' hd
  · rw [put_idsLen hid]
    have := h.size
    cases hd : s.docs id with
    | none =>
      have : s.ids.length ≠ 6 := fun e => hs ⟨hd, e⟩
      simp; omega
    | some d' => simp; omega
  · have := h.revs i
    show 0 ≤ (if i = id then s.revs i + 1 else s.revs i) ∧ (if i = id then s.revs i + 1 else s.revs i) ≤ B + 1
    split <;> omega
  · show (if i = id then s.revs i + 1 else s.revs i) = 0
    rw [if_neg (by rintro rfl; exact hi hid)]; exact h.out i hi
theorem Fine.mono {s : St} {B B' : Int} (h : Fine s B) (hb : B ≤ B') : Fine s B' := ⟨h.dom, h.size, fun i => ⟨(h.revs i).1, Int.le_trans (h.revs i).2 hb⟩, h.out⟩
theorem Fine.putR {s : St} {B : Int} (h : Fine s B) (id g : Int) (t : List UInt8) : Fine (s.putR id g t) (B + 1) := by
  unfold St.putR
  by_cases he : s.putErr id g t = 0
  · rw [if_pos he]
    unfold St.putErr at he
    by_cases h1 : 12 < t.length
    · rw [if_pos h1] at he; cases he
    · rw [if_neg h1] at he
      by_cases h2 : ¬ (1 ≤ id ∧ id ≤ 9)
      · rw [if_pos h2] at he; cases he
      · rw [if_neg h2] at he
        by_cases h3 : ¬ (0 ≤ g ∧ g ≤ 2)
        · rw [if_pos h3] at he; cases he
        · rw [if_neg h3] at he
          by_cases h4 : textOK t = false
          · rw [if_pos h4] at he; cases he
          · rw [if_neg h4] at he
            by_cases h5 : s.docs id = none ∧ s.ids.length = 6
            · rw [if_pos h5] at he; cases he
            · exact h.put (d := ⟨g, t⟩) (by omega) (by show 0 ≤ g ∧ g ≤ 2; omega) (by show t.length ≤ 12; omega) (by show textOK t = true; simpa using h4) h5
  · rw [if_neg he]; exact h.mono (by omega)

theorem fNum_getD (f : Int → Int) (i : Int) : (fNum f i).getD (.int .i64 0) = .int .i64 (f i) := by
  unfold fNum; by_cases h : f i = 0 <;> simp [h]

theorem fRevs_put {s : St} {B : Int} (h : Fine s B) (id : Int) (d : Doc) : fNum (s.put id d).revs = upd (fNum s.revs) id (some (.int .i64 (s.revs id + 1))) := by
  funext i
  have := h.revs i
  unfold fNum upd
  show (if (if i = id then s.revs i + 1 else s.revs i) = 0 then none else some (Value.int .i64 (if i = id then s.revs i + 1 else s.revs i))) = _
  by_cases hi : i = id
  · subst hi; simp; omega
  · simp [hi]
theorem fDocs_put_new {s : St} {p : Int → Nat} (id : Int) (d : Doc) (q : Nat) : fDocs (s.put id d) (fun i => if i = id then q else p i) = upd (fDocs s p) id (some (.pointer (some ⟨q, 0, none⟩))) := by
  funext i
  unfold fDocs upd
  by_cases hi : i = id
  · subst hi; simp [put_docs]
  · rw [put_other s d hi]; simp [hi]
theorem fDocs_put_old {s : St} {p : Int → Nat} {id : Int} {d' : Doc} (d : Doc) (hd : s.docs id = some d') : fDocs (s.put id d) p = fDocs s p := by
  funext i
  unfold fDocs
  by_cases hi : i = id
  · subst hi; simp [put_docs, hd]
  · rw [put_other s d hi]
theorem fGroups_put_new {s : St} {id : Int} {d : Doc} (hid : 1 ≤ id ∧ id ≤ 9) (hd : s.docs id = none) : fGroups (s.put id d) = upd (fGroups s) d.group (some (.int .i64 ((s.cnt d.group : Int) + 1))) := by
  funext g
  have := put_cnt (d := d) hid g (s := s)
  rw [inG_none hd] at this
  simp only [Bool.false_eq_true, if_false] at this
  unfold fGroups fNum upd
  simp only []
  rw [this]
  by_cases hg : g = d.group
  · subst hg; simp; omega
  · simp [hg, Ne.symm hg]
/-- The count of group g when one of group g' has left. -/
def cntLess (s : St) (g' g : Int) : Int := if g = g' then (s.cnt g : Int) - 1 else s.cnt g
theorem fGroups_put_old {s : St} {id : Int} {d d' : Doc} (hid : 1 ≤ id ∧ id ≤ 9) (hd : s.docs id = some d') : fGroups (s.put id d) = upd (fGroups (s.del id)) d.group (some (.int .i64 (cntLess s d'.group d.group + 1))) := by
  funext g
  have h1 := put_cnt (d := d) hid g (s := s)
  have h2 := del_cnt hid hd g
  rw [inG_some hd] at h1
  unfold fGroups fNum upd cntLess
  simp only []
  rw [h1, h2]
  by_cases hg : g = d.group
  · subst hg
    by_cases hg' : d.group = d'.group
    · have := cnt_pos hid hd; simp [hg'] at this ⊢; omega
    · simp [hg', Ne.symm hg']; omega
  · by_cases hg' : g = d'.group
    · subst hg'; simp [hg, Ne.symm hg]
    · simp [hg, Ne.symm hg, hg', Ne.symm hg']
theorem fGroups_put_same {s : St} {id : Int} {d : Doc} (hid : 1 ≤ id ∧ id ≤ 9) (hd : s.docs id = some d) : fGroups (s.put id d) = fGroups s := by
  funext g
  have h1 := put_cnt (d := d) hid g (s := s)
  rw [inG_some hd] at h1
  unfold fGroups fNum
  simp only []
  rw [h1]
  by_cases hg : d.group = g <;> simp [hg]
theorem cntLess_getD {s : St} {id : Int} {d : Doc} (hid : 1 ≤ id ∧ id ≤ 9) (hd : s.docs id = some d) (g : Int) : ((fGroups (s.del id)) g).getD (.int .i64 0) = .int .i64 (cntLess s d.group g) := by
  unfold fGroups
  rw [fNum_getD, del_cnt hid hd]; rfl
theorem cntLess_le (s : St) (g' g : Int) : cntLess s g' g ≤ 9 := by
  have h1 := cnt_le s g; have h2 := ids_le s
  unfold cntLess; split <;> omega
theorem cntLess_ge (s : St) (g' g : Int) : -1 ≤ cntLess s g' g := by
  unfold cntLess; split <;> omega
end Go.Tag
