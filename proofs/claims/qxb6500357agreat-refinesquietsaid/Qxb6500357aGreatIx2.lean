/- Words come in and go out: plain lemmas. -/
import Derived.Test.Qxb6500357aGreatIx
namespace Go.Tag
open Go.RowKit
set_option linter.unusedVariables false
set_option linter.unusedSimpArgs false

theorem addW_nodup {acc : List Word} (h : acc.Nodup) (u : Word) : (addW acc u).Nodup := by
  unfold addW
  by_cases hc : u = [] ∨ u ∈ acc
  · rw [if_pos hc]; exact h
  · rw [if_neg hc, List.nodup_append]
    refine ⟨h, by simp, fun a ha b hb => ?_⟩
    simp only [List.mem_singleton] at hb
    subst hb; rintro rfl; exact hc (.inr ha)
theorem splitGo_nodup : ∀ (t cur : List UInt8) (acc : List Word), acc.Nodup → (splitGo t cur acc).Nodup
  | [], cur, acc, h => addW_nodup h cur
  | c :: t, cur, acc, h => by
    unfold splitGo; split
    · exact splitGo_nodup t [] _ (addW_nodup h cur)
    · exact splitGo_nodup t _ _ h
theorem wordsOf_nodup (t : List UInt8) : (wordsOf t).Nodup := splitGo_nodup t [] [] List.nodup_nil
theorem addW_mem {acc : List Word} {u v : Word} : v ∈ addW acc u ↔ v ∈ acc ∨ (v = u ∧ u ≠ []) := by
  unfold addW
  by_cases hc : u = [] ∨ u ∈ acc
  · rw [if_pos hc]
    constructor
    · exact .inl
    · rintro (h | ⟨rfl, h⟩)
      · exact h
      · exact hc.resolve_left h
  · rw [if_neg hc]
    simp only [List.mem_append, List.mem_singleton]
    constructor
    · rintro (h | rfl)
      · exact .inl h
      · exact .inr ⟨rfl, fun e => hc (.inl e)⟩
    · rintro (h | ⟨h, _⟩)
      · exact .inl h
      · exact .inr h
theorem addW_len (acc : List Word) (u : Word) : (addW acc u).length ≤ acc.length + 1 := by unfold addW; split <;> simp
theorem splitGo_len : ∀ (t cur : List UInt8) (acc : List Word), (splitGo t cur acc).length ≤ acc.length + t.length + 1
  | [], cur, acc => by have := addW_len acc cur; simp [splitGo]; omega
  | c :: t, cur, acc => by
    unfold splitGo; split
    · have h1 := splitGo_len t [] (addW acc cur); have h2 := addW_len acc cur; simp; omega
    · have h1 := splitGo_len t (cur ++ [c]) acc; simp; omega
theorem wordsOf_len (t : List UInt8) : (wordsOf t).length ≤ t.length + 1 := by have := splitGo_len t [] []; simpa [wordsOf] using this
/-- The words are short and not empty. -/
theorem splitGo_word (N : Nat) : ∀ (t cur : List UInt8) (acc : List Word), cur.length + t.length ≤ N → (∀ u ∈ acc, u ≠ [] ∧ u.length ≤ N) → ∀ u ∈ splitGo t cur acc, u ≠ [] ∧ u.length ≤ N
  | [], cur, acc, h, ha, u, hu => by
    rcases addW_mem.1 hu with h1 | ⟨rfl, h2⟩
    · exact ha u h1
    · exact ⟨h2, by simp at h; omega⟩
  | c :: t, cur, acc, h, ha, u, hu => by
    unfold splitGo at hu; split at hu
    · refine splitGo_word N t [] _ (by simp at h ⊢; omega) (fun v hv => ?_) u hu
      rcases addW_mem.1 hv with h1 | ⟨rfl, h2⟩
      · exact ha v h1
      · exact ⟨h2, by simp at h; omega⟩
    · exact splitGo_word N t _ _ (by simp at h ⊢; omega) ha u hu
theorem wordsOf_word (t : List UInt8) : ∀ u ∈ wordsOf t, u ≠ [] ∧ u.length ≤ t.length := splitGo_word t.length t [] [] (by simp) (by simp)

/-- H behind the first j words of ws have come in for id; gone out. -/
def addN (H : Has) (id : Int) (ws : List Word) (j : Nat) : Has := fun v i => H v i || (decide (i = id) && decide (v ∈ ws.take j))
def subN (H : Has) (id : Int) (ws : List Word) (j : Nat) : Has := fun v i => H v i && !(decide (i = id) && decide (v ∈ ws.take j))
theorem addN_zero (H : Has) (id : Int) (ws : List Word) : addN H id ws 0 = H := by funext v i; simp [addN]
theorem subN_zero (H : Has) (id : Int) (ws : List Word) : subN H id ws 0 = H := by funext v i; simp [subN]
theorem addN_succ (H : Has) (id : Int) (ws : List Word) (j : Nat) (h : j < ws.length) : addN H id ws (j + 1) = addH (addN H id ws j) ws[j] id := by
  funext v i
  have hm : (v ∈ ws.take (j + 1)) ↔ (v ∈ ws.take j ∨ v = ws[j]) := by rw [take_snoc ws j h, List.mem_append, List.mem_singleton]
  unfold addN addH
  by_cases h1 : i = id <;> by_cases h2 : v = ws[j] <;> by_cases h3 : v ∈ ws.take j <;> simp_all
theorem subN_succ (H : Has) (id : Int) (ws : List Word) (j : Nat) (h : j < ws.length) : subN H id ws (j + 1) = subH (subN H id ws j) ws[j] id := by
  funext v i
  have hm : (v ∈ ws.take (j + 1)) ↔ (v ∈ ws.take j ∨ v = ws[j]) := by rw [take_snoc ws j h, List.mem_append, List.mem_singleton]
  unfold subN subH
  by_cases h1 : i = id <;> by_cases h2 : v = ws[j] <;> by_cases h3 : v ∈ ws.take j <;> simp_all
theorem nodup_take {ws : List Word} (hn : ws.Nodup) (j : Nat) (h : j < ws.length) : ws[j] ∉ ws.take j := by
  intro hm
  obtain ⟨i, hi, he⟩ := List.getElem_of_mem hm
  simp only [List.length_take] at hi
  rw [List.getElem_take] at he
  exact List.pairwise_iff_getElem.1 hn i j (by omega) h (by omega) he
theorem addN_no {H : Has} {id : Int} {ws : List Word} (hn : ws.Nodup) (hH : ∀ u, H u id = false) (j : Nat) (h : j < ws.length) : addN H id ws j ws[j] id = false := by
  simp [addN, hH, nodup_take hn j h]
theorem subN_yes {H : Has} {id : Int} {ws : List Word} (hn : ws.Nodup) (hH : ∀ u ∈ ws, H u id = true) (j : Nat) (h : j < ws.length) : subN H id ws j ws[j] id = true := by
  simp [subN, hH, nodup_take hn j h]

section
variable {w w' : World} {F F' : Nat → Prop} {x b bi bb : Nat} {H : Has} {grp : Int → Int} {q : Word → Nat} {u : Word} {id : Int}
theorem indexAt_add (h : IndexAt w F x b bi bb H grp q) (hid : 1 ≤ id ∧ id ≤ 9) (hH : H u id = false) {q1 : Nat} (hq : (cntW H u ≠ 0 ∧ q1 = q u) ∨ (cntW H u = 0 ∧ w.heap.size ≤ q1)) (hF : ∀ k, F k → F' k) (hq1 : F' q1)
    (m1 : MapFn w' bi kStr (upd (fInv H q) u (some (postV q1 (cntW H u + 1))))) (m2 : MapFn w' q1 kInt (upd (setB (H u)) id (some (.bool true)))) (m3 : MapFn w' bb kPair (upd (fBy H grp) (grp id, u) (some (.int .i64 ((cntBy H grp (grp id, u) : Int) + 1)))))
    (fr : Fr (fun k => k = bi ∨ k = bb ∨ k = q1) w w') : IndexAt w' F' x b bi bb (addH H u id) grp (fun v => if v = u then q1 else q v) := by
  obtain ⟨l1, l2, l3, l4⟩ := h.lt
  obtain ⟨r1, r2, r3⟩ := h.ne_root
  have hc : ∀ v, v ≠ u → (cntW (addH H u id) v ≠ 0 ↔ cntW H v ≠ 0) := fun v hv => by rw [cntW_add hid hH, if_neg hv]
  have hq1n : ∀ k, k = x ∨ k = bi ∨ k = bb ∨ (∃ v, v ≠ u ∧ cntW H v ≠ 0 ∧ k = q v) → k ≠ q1 := by
    intro k hk e
    rcases hq with ⟨c, rfl⟩ | ⟨c, hlt⟩
    · rcases hk with h1 | h1 | h1 | ⟨v, hv, cv, h1⟩
      · exact r3 u c (e.symm.trans h1)
      · exact (h.ne.2 u c).1 (e.symm.trans h1)
      · exact (h.ne.2 u c).2 (e.symm.trans h1)
      · exact hv (h.inj v u cv c (h1.symm.trans e))
    · rcases hk with h1 | h1 | h1 | ⟨v, hv, cv, h1⟩
      · omega
      · omega
      · omega
      · have := l4 v cv; omega
  refine ⟨?_, ?_, ?_, ?_, ?_, ⟨h.ne.1, ?_⟩, ?_, ⟨hF _ h.own.1, hF _ h.own.2.1, hF _ h.own.2.2.1, ?_⟩⟩
  · rw [fr.block x l1 (fun e => e.elim (fun e => r1 e.symm) (fun e => e.elim (fun e => r2 e.symm) (hq1n x (.inl rfl))))]; exact h.root
  · rw [fInv_add hid q q1 hH]; exact m1
  · intro v hv
    by_cases hvu : v = u
    · subst hvu; simp only [if_true]; rw [setB_add]; exact m2
    · simp only [hvu, if_false]; rw [setB_add_other _ _ _ _ hvu]
      have cv := (hc v hvu).1 hv
      exact (h.set v cv).fr fr (fun e => e.elim (h.ne.2 v cv).1 (fun e => e.elim (h.ne.2 v cv).2 (hq1n _ (.inr (.inr (.inr ⟨v, hvu, cv, rfl⟩))))))
  · intro v v' hv hv' e
    by_cases h1 : v = u <;> by_cases h2 : v' = u
    · rw [h1, h2]
    · simp only [h1, h2, if_true, if_false] at e
      exact absurd e.symm (hq1n _ (.inr (.inr (.inr ⟨v', h2, (hc v' h2).1 hv', rfl⟩))))
    · simp only [h1, h2, if_true, if_false] at e
      exact absurd e (hq1n _ (.inr (.inr (.inr ⟨v, h1, (hc v h1).1 hv, rfl⟩))))
    · simp only [h1, h2, if_false] at e
      exact h.inj v v' ((hc v h1).1 hv) ((hc v' h2).1 hv') e
  · rw [fBy_add hid grp hH]; exact m3
  · intro v hv
    by_cases hvu : v = u
    · simp only [hvu, if_true]
      exact ⟨fun e => hq1n bi (.inr (.inl rfl)) e.symm, fun e => hq1n bb (.inr (.inr (.inl rfl))) e.symm⟩
    · simp only [hvu, if_false]; exact h.ne.2 v ((hc v hvu).1 hv)
  · intro v i hv
    unfold addH at hv
    rcases Bool.or_eq_true_iff.1 hv with h1 | h1
    · exact h.dom v i h1
    · simp at h1; rw [h1.2]; exact hid
  · intro v hv
    by_cases hvu : v = u
    · simp only [hvu, if_true]; exact hq1
    · simp only [hvu, if_false]; exact hF _ (h.own.2.2.2 v ((hc v hvu).1 hv))

theorem indexAt_sub (h : IndexAt w F x b bi bb H grp q) (hid : 1 ≤ id ∧ id ≤ 9) (hH : H u id = true)
    (m1 : MapFn w' bi kStr (upd (fInv H q) u (if cntW H u = 1 then none else some (postV (q u) (cntW H u - 1))))) (m2 : MapFn w' (q u) kInt (upd (setB (H u)) id none))
    (m3 : MapFn w' bb kPair (upd (fBy H grp) (grp id, u) (if (cntBy H grp (grp id, u) : Int) = 1 then none else some (.int .i64 ((cntBy H grp (grp id, u) : Int) - 1)))))
    (fr : Fr (fun k => k = bi ∨ k = bb ∨ k = q u) w w') : IndexAt w' F x b bi bb (subH H u id) grp q := by
  obtain ⟨l1, l2, l3, l4⟩ := h.lt
  obtain ⟨r1, r2, r3⟩ := h.ne_root
  have cu : cntW H u ≠ 0 := by have := cntW_pos hH hid; omega
  have hc : ∀ v, cntW (subH H u id) v ≠ 0 → cntW H v ≠ 0 := fun v hv => by
    rw [cntW_sub hid hH] at hv; split at hv <;> omega
  refine ⟨?_, ?_, ?_, fun v v' hv hv' e => h.inj v v' (hc v hv) (hc v' hv') e, ?_, ⟨h.ne.1, fun v hv => h.ne.2 v (hc v hv)⟩, ?_, ⟨h.own.1, h.own.2.1, h.own.2.2.1, fun v hv => h.own.2.2.2 v (hc v hv)⟩⟩
  · rw [fr.block x l1 (fun e => e.elim (fun e => r1 e.symm) (fun e => e.elim (fun e => r2 e.symm) (fun e => r3 u cu e.symm)))]; exact h.root
  · rw [fInv_sub hid q hH]; exact m1
  · intro v hv
    by_cases hvu : v = u
    · subst hvu; rw [setB_sub]; exact m2
    · rw [setB_sub_other _ _ _ _ hvu]
      have cv := hc v hv
      exact (h.set v cv).fr fr (fun e => e.elim (h.ne.2 v cv).1 (fun e => e.elim (h.ne.2 v cv).2 (fun e => hvu (h.inj v u cv cu e))))
  · rw [fBy_sub hid grp hH]; exact m3
  · intro v i hv
    unfold subH at hv
    exact h.dom v i (Bool.and_eq_true_iff.1 hv).1
end
end Go.Tag
