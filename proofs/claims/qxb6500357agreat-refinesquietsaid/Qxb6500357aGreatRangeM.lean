/- The measure of a map's range; dropping a group, plainly. -/
import Derived.Test.Qxb6500357aGreatMapW
import Derived.Test.Qxb6500357aGreatState2
namespace Go.Tag
open Go.RowKit
set_option linter.unusedSectionVars false
set_option linter.unusedVariables false
set_option linter.unusedSimpArgs false

/-- How many entries the range over b at r has still to produce. -/
def toGo (b r : Nat) (w : World) : Nat := match w.heap[b]?, w.heap[r]? with
  | some (.map es _), some (.mapIter _ _ seen _) => ((es.toList.map (·.born)).filter fun x => !seen.contains x).length
  | _, _ => 0
theorem RangeFn.toGo {κ : Type} [DecidableEq κ] {w : World} {b r : Nat} {ke : κ → Value} {f : κ → Option Value} {left : κ → Bool} {cnt : Nat} (h : RangeFn w b r ke f left cnt) : toGo b r w = cnt := by
  obtain ⟨es, c, s, n, l, h1, h2, h3, h4, h5, h6, h7, h8, h9⟩ := h
  unfold Go.Tag.toGo; rw [h1, h3]; exact h9

theorem drop_docs (s : St) (g i : Int) : (s.drop g).docs i = if s.groupOf i = g then none else s.docs i := rfl
theorem drop_inG (s : St) (g g' i : Int) : (s.drop g).inG g' i = (s.inG g' i && !decide (g' = g)) := by
  cases h : s.docs i with
  | none =>
    have : (s.drop g).docs i = none := by rw [drop_docs, h]; split <;> rfl
    rw [inG_none this, inG_none h]; rfl
  | some d =>
    by_cases hg : d.group = g
    · have : (s.drop g).docs i = none := by rw [drop_docs, groupOf_some h, if_pos hg]
      rw [inG_none this, inG_some h]
      by_cases h' : d.group = g' <;> simp [h']
      omega
    · have : (s.drop g).docs i = some d := by rw [drop_docs, groupOf_some h, if_neg hg]; exact h
      rw [inG_some this, inG_some h]
      by_cases h' : d.group = g' <;> simp [h']
      omega
theorem drop_cnt (s : St) (g g' : Int) : (s.drop g).cnt g' = if g' = g then 0 else s.cnt g' := by
  rw [cnt_eq, cnt_eq]
  by_cases h : g' = g
  · rw [if_pos h, List.length_eq_zero_iff, List.filter_eq_nil_iff]
    intro i _; rw [drop_inG]; simp [h]
  · rw [if_neg h]; congr 1
    exact List.filter_congr fun i _ => by rw [drop_inG]; simp [h]
theorem fGroups_drop (s : St) (g : Int) : fGroups (s.drop g) = upd (fGroups s) g none := by
  funext g'
  unfold fGroups fNum upd
  simp only []
  rw [drop_cnt]
  by_cases h : g' = g <;> simp [h]
theorem Fine.drop {s : St} {B : Int} (h : Fine s B) (g : Int) : Fine (s.drop g) B := by
  refine ⟨fun i d hd => ?_, ?_, h.revs, h.out⟩
  · rw [drop_docs] at hd; split at hd
    · cases hd
    · exact h.dom i d hd
  · refine Nat.le_trans ?_ h.size
    have : (s.drop g).ids = s.ids.filter fun i => ((s.drop g).docs i).isSome := by
      unfold St.ids
      rw [List.filter_filter]
      refine List.filter_congr fun i _ => ?_
      rw [drop_docs]; split <;> simp
    rw [this]; exact List.length_filter_le _ _

/-- The documents behind some of a drop's rounds; how many have gone. -/
def fDrop (s : St) (p : Int → Nat) (g : Int) (left : Int → Bool) (i : Int) : Option Value := if s.inG g i && !left i then none else fDocs s p i
def nDrop (s : St) (g : Int) (left : Int → Bool) : Nat := (idsAll.filter fun i => s.inG g i && !left i).length
theorem fDrop_start (s : St) (p : Int → Nat) (g : Int) : fDrop s p g (fun i => (fDocs s p i).isSome) = fDocs s p := by
  funext i
  unfold fDrop
  cases h : s.docs i with
  | none => simp [inG_none h]
  | some d => simp [fDocs, h]
theorem nDrop_start (s : St) (p : Int → Nat) (g : Int) : nDrop s g (fun i => (fDocs s p i).isSome) = 0 := by
  unfold nDrop
  rw [List.length_eq_zero_iff, List.filter_eq_nil_iff]
  intro i _
  cases h : s.docs i with
  | none => simp [inG_none h]
  | some d => simp [fDocs, h]
theorem nDrop_end (s : St) (g : Int) (left : Int → Bool) (h : ∀ k, left k = false) : nDrop s g left = s.cnt g := by
  rw [cnt_eq]; unfold nDrop; congr 1
  exact List.filter_congr fun i _ => by simp [h]
theorem fDrop_end (s : St) (p : Int → Nat) (g : Int) (left : Int → Bool) (h : ∀ k, left k = false) : fDrop s p g left = fDocs (s.drop g) p := by
  funext i
  unfold fDrop fDocs
  cases hd : s.docs i with
  | none => simp [inG_none hd, drop_docs, hd]
  | some d =>
    rw [inG_some hd, drop_docs, groupOf_some hd, hd, h]
    by_cases hg : d.group = g <;> simp [hg]
theorem fDrop_gone (s : St) (p : Int → Nat) (g : Int) (left : Int → Bool) (k : Int) (hk : s.inG g k = true) : upd (fDrop s p g left) k none = fDrop s p g (fun j => left j && !decide (j = k)) := by
  funext i
  unfold fDrop upd
  by_cases hi : i = k
  · subst hi; simp [hk]
  · simp [hi]
theorem fDrop_stay (s : St) (p : Int → Nat) (g : Int) (left : Int → Bool) (k : Int) (hk : s.inG g k = false) : fDrop s p g left = fDrop s p g (fun j => left j && !decide (j = k)) := by
  funext i
  unfold fDrop
  by_cases hi : i = k
  · subst hi; simp [hk]
  · simp [hi]
theorem nDrop_gone (s : St) (g : Int) (left : Int → Bool) (k : Int) (hid : 1 ≤ k ∧ k ≤ 9) (hk : s.inG g k = true) (hl : left k = true) : nDrop s g (fun j => left j && !decide (j = k)) = nDrop s g left + 1 := by
  have := len_filter_upd (fun i => s.inG g i && !(left i && !decide (i = k))) (fun i => s.inG g i && !left i) k (fun i hi => by simp [hi]) idsAll nodup_idsAll ((mem_idsAll k).2 hid)
  simp [hk, hl] at this
  unfold nDrop
  simpa using this
theorem nDrop_stay (s : St) (g : Int) (left : Int → Bool) (k : Int) (hk : s.inG g k = false) : nDrop s g (fun j => left j && !decide (j = k)) = nDrop s g left := by
  unfold nDrop; congr 1
  refine List.filter_congr fun i _ => ?_
  by_cases hi : i = k
  · subst hi; simp [hk]
  · simp [hi]
theorem nDrop_le (s : St) (g : Int) (left : Int → Bool) : nDrop s g left ≤ 9 := List.length_filter_le _ idsAll
end Go.Tag
