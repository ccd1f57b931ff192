/- The index level with the store: one relation for both. -/
import Derived.Test.Qxb6500357aGreatIx2
import Derived.Test.Qxb6500357aGreatRangeM
namespace Go.Tag
open Go.RowKit
set_option linter.unusedVariables false
set_option linter.unusedSimpArgs false

/-- Document i holds the word u. -/
def hasOf (s : St) : Has := fun u i => match s.docs i with | some d => decide (u ∈ wordsOf d.text) | none => false
theorem hasOf_some {s : St} {i : Int} {d : Doc} (h : s.docs i = some d) (u : Word) : hasOf s u i = decide (u ∈ wordsOf d.text) := by unfold hasOf; rw [h]
theorem hasOf_none {s : St} {i : Int} (h : s.docs i = none) (u : Word) : hasOf s u i = false := by unfold hasOf; rw [h]
theorem hasOf_congr {s t : St} {i : Int} (h : s.docs i = t.docs i) (u : Word) : hasOf s u i = hasOf t u i := by unfold hasOf; rw [h]

theorem hasOf_del {s : St} {id : Int} {d : Doc} (h : s.docs id = some d) : subN (hasOf s) id (wordsOf d.text) (wordsOf d.text).length = hasOf (s.del id) := by
  funext u i
  unfold subN
  rw [List.take_length]
  by_cases hi : i = id
  · subst hi; rw [hasOf_some h, hasOf_none (del_docs s i)]; simp
  · rw [hasOf_congr (del_other s hi)]; simp [hi]
theorem hasOf_put_new {s : St} {id : Int} (d : Doc) (h : s.docs id = none) : addN (hasOf s) id (wordsOf d.text) (wordsOf d.text).length = hasOf (s.put id d) := by
  funext u i
  unfold addN
  rw [List.take_length]
  by_cases hi : i = id
  · subst hi; rw [hasOf_none h, hasOf_some (put_docs s i d)]; simp
  · rw [hasOf_congr (put_other s d hi)]; simp [hi]
theorem hasOf_put_old {s : St} {id : Int} (d : Doc) : addN (hasOf (s.del id)) id (wordsOf d.text) (wordsOf d.text).length = hasOf (s.put id d) := by
  rw [hasOf_put_new d (del_docs s id)]
  funext u i
  by_cases hi : i = id
  · subst hi; rw [hasOf_some (put_docs _ i d), hasOf_some (put_docs s i d)]
  · rw [hasOf_congr (put_other _ d hi), hasOf_congr (put_other s d hi), hasOf_congr (del_other s hi)]
theorem hasOf_put_same {s : St} {id : Int} {d : Doc} (h : s.docs id = some d) : hasOf (s.put id d) = hasOf s := by
  funext u i
  by_cases hi : i = id
  · subst hi; rw [hasOf_some (put_docs s i d), hasOf_some h]
  · rw [hasOf_congr (put_other s d hi)]
theorem hasOf_id_del (s : St) (id : Int) (u : Word) : hasOf (s.del id) u id = false := hasOf_none (del_docs s id) u
theorem groupOf_put (s : St) (id : Int) (d : Doc) (i : Int) : (s.put id d).groupOf i = if i = id then d.group else s.groupOf i := by
  by_cases hi : i = id
  · subst hi; rw [if_pos rfl]; unfold St.groupOf; rw [put_docs]
  · rw [if_neg hi]; unfold St.groupOf; rw [put_other s d hi]
theorem groupOf_del {s : St} {id i : Int} (hi : i ≠ id) : (s.del id).groupOf i = s.groupOf i := by unfold St.groupOf; rw [del_other s hi]
theorem groupOf_put_same {s : St} {id : Int} {d : Doc} (h : s.docs id = some d) : (s.put id d).groupOf = s.groupOf := by
  funext i; rw [groupOf_put]; split
  · next e => subst e; exact (groupOf_some h).symm
  · rfl
theorem hasOf_dom {s : St} {B : Int} (h : Fine s B) {u : Word} {i : Int} (hu : hasOf s u i = true) : 1 ≤ i ∧ i ≤ 9 := by
  cases hd : s.docs i with
  | none => rw [hasOf_none hd] at hu; cases hu
  | some d => exact (h.dom i d hd).1

section
variable {w w' : World} {F F' : Nat → Prop} {x b bi bb : Nat} {H : Has} {grp grp' : Int → Int} {q : Word → Nat}
theorem IndexAt.regrp (h : IndexAt w F x b bi bb H grp q) (hg : ∀ u i, H u i = true → grp i = grp' i) : IndexAt w F x b bi bb H grp' q := by
  have e : fBy H grp' = fBy H grp := by
    funext k
    have : cntBy H grp' k = cntBy H grp k := by
      unfold cntBy; congr 1
      refine List.filter_congr fun i _ => ?_
      cases hh : H k.2 i with
      | false => rfl
      | true => rw [hg _ _ hh]
    unfold fBy; rw [this]
  exact ⟨h.root, h.inv, h.set, h.inj, by rw [e]; exact h.by_, h.ne, h.dom, h.own⟩
end
section
variable {w w' : World} {F F' : Nat → Prop} {b bd br bg : Nat} {s : St} {p : Int → Nat}
theorem StoreAt.bound (h : StoreAt w F b s bd br bg p) : StoreAt w (fun k => F k ∧ k < w.heap.size) b s bd br bg p :=
  ⟨h.root, h.docs, h.doc, h.inj, h.revs, h.groups, h.ne, ⟨h.own.1, h.lt.1⟩, ⟨h.own.2.1, h.lt.2.1⟩, ⟨h.own.2.2.1, h.lt.2.2.1⟩, ⟨h.own.2.2.2.1, h.lt.2.2.2⟩, fun i d hd => ⟨h.own.2.2.2.2 i d hd, lt_of_heap (h.doc i d hd)⟩⟩
theorem StoreAt.fr (h : StoreAt w F b s bd br bg p) {S : Nat → Prop} (hf : Fr S w w') (hS : ∀ k, F k → ¬ S k) : StoreAt w' F b s bd br bg p :=
  ⟨hf.heap h.root (hS _ h.own.1), h.docs.fr hf (hS _ h.own.2.1), fun i d hd => hf.heap (h.doc i d hd) (hS _ (h.own.2.2.2.2 i d hd)), h.inj, h.revs.fr hf (hS _ h.own.2.2.1), h.groups.fr hf (hS _ h.own.2.2.2.1), h.ne, h.own⟩
end

/-- The store and the index over it, level. -/
structure BothAt (st0 : Nat) (w : World) (x : Nat) (s : St) (b bd br bg : Nat) (p : Int → Nat) (bi bb : Nat) (q : Word → Nat) (Fs Fi : Nat → Prop) : Prop where
  st : StoreAt w Fs b s bd br bg p
  ix : IndexAt w Fi x b bi bb (hasOf s) s.groupOf q
  dis : ∀ k, Fs k → ¬ Fi k
  ls : ∀ k, Fs k → k < w.heap.size
  li : ∀ k, Fi k → k < w.heap.size
  eb : b = st0
def Both (st0 : Nat) (w : World) (F : Nat → Prop) (x : Nat) (s : St) : Prop :=
  ∃ b bd br bg p bi bb q Fs Fi, BothAt st0 w x s b bd br bg p bi bb q Fs Fi ∧ ∀ k, Fs k ∨ Fi k → F k

theorem Both.fr {st0 : Nat} {w w' : World} {F : Nat → Prop} {x : Nat} {s : St} (h : Both st0 w F x s) {S : Nat → Prop} (hf : Fr S w w') (hS : ∀ k, F k → ¬ S k) : Both st0 w' F x s := by
  obtain ⟨b, bd, br, bg, p, bi, bb, q, Fs, Fi, h1, h2⟩ := h
  exact ⟨b, bd, br, bg, p, bi, bb, q, Fs, Fi, ⟨h1.st.fr hf (fun k hk => hS k (h2 k (.inl hk))), h1.ix.fr hf (fun k hk => hS k (h2 k (.inr hk))), h1.dis, fun k hk => Nat.lt_of_lt_of_le (h1.ls k hk) hf.size, fun k hk => Nat.lt_of_lt_of_le (h1.li k hk) hf.size, h1.eb⟩, h2⟩
theorem Both.frNo {st0 : Nat} {w w' : World} {F : Nat → Prop} {x : Nat} {s : St} (h : Both st0 w F x s) (hf : Fr No w w') : Both st0 w' F x s := h.fr hf (fun _ _ h => h)
theorem Both.mono {st0 : Nat} {w : World} {F F' : Nat → Prop} {x : Nat} {s : St} (h : Both st0 w F x s) (hF : ∀ k, F k → F' k) : Both st0 w F' x s := by
  obtain ⟨b, bd, br, bg, p, bi, bb, q, Fs, Fi, h1, h2⟩ := h
  exact ⟨b, bd, br, bg, p, bi, bb, q, Fs, Fi, h1, fun k hk => hF k (h2 k hk)⟩
end Go.Tag
