/- The length of a map; ranging over one. -/
import Derived.Test.Qxb6500357aBase
namespace Go.Tag
open Go.RowKit
set_option linter.unusedSectionVars false
set_option linter.unusedSimpArgs false
set_option linter.unusedVariables false

section
variable {κ : Type} [DecidableEq κ] {P : Program} {w : World} {b r : Nat} {ke : κ → Value} {f : κ → Option Value} {kt et t : TypeId}

theorem Ents.size {es : Array MapEntry} {clock : Nat} (h : Ents ke f es clock) (K : KeyOK P kt ke) {ks : List κ} (hn : ks.Nodup) (hm : ∀ k, k ∈ ks ↔ (f k).isSome = true) : es.size = ks.length := by
  have h1 : (ks.map ke).Nodup := by
    rw [List.nodup_iff_pairwise_ne, List.pairwise_map]
    exact pw_to hn (fun h e => h (K.inj e))
  have h2 : ∀ a, a ∈ es.toList.map (·.key) ↔ a ∈ ks.map ke := by
    intro a
    constructor
    · intro ha
      obtain ⟨e, he, rfl⟩ := List.mem_map.1 ha
      obtain ⟨k, hk, hv⟩ := h.sound e he
      exact List.mem_map.2 ⟨k, (hm k).2 (by rw [hv]; rfl), hk.symm⟩
    · intro ha
      obtain ⟨k, hk, rfl⟩ := List.mem_map.1 ha
      obtain ⟨v, hv⟩ := Option.isSome_iff_exists.1 ((hm k).1 hk)
      obtain ⟨e, he, h3, _⟩ := h.whole k v hv
      exact List.mem_map.2 ⟨e, he, h3⟩
  have := ((List.perm_ext_iff_of_nodup h.keys h1).2 h2).length_eq
  simpa using this

/-- 'len(m)'. -/
theorem MapFn.len (h : MapFn w b ke f) (K : KeyOK P kt ke) (ht : P.underlying t = some (.map kt et)) {ks : List κ} (hn : ks.Nodup) (hm : ∀ k, k ∈ ks ↔ (f k).isSome = true) (ty : TypeId) :
    (Builtin.len_ #[t] ty #[.map (some b)]).run P w = .ok (.int .i64 (ks.length : Int)) w := by
  obtain ⟨es, clock, hb, he⟩ := h
  have hs := he.size K hn hm
  simp [Builtin.len_, run_underlying ht, MapKept.run_getObj_map hb, hs, goInt]

/-- Block r is an iterator over the map at block b; 'left k': is the entry at k still to come; cnt: how many are. -/
def RangeFn (w : World) (b r : Nat) (ke : κ → Value) (f : κ → Option Value) (left : κ → Bool) (cnt : Nat) : Prop :=
  ∃ es clock since seen last, w.heap[b]? = some (.map es clock) ∧ Ents ke f es clock ∧ w.heap[r]? = some (.mapIter (some b) since seen last) ∧ since ≤ last ∧ since ≤ clock ∧
    (∀ e ∈ es.toList, e.born < since) ∧ (∀ k, left k = true → (f k).isSome = true) ∧ (∀ e ∈ es.toList, ∀ k, e.key = ke k → seen.contains e.born = !left k) ∧
    ((es.toList.map (·.born)).filter fun x => !seen.contains x).length = cnt

theorem RangeFn.map {left : κ → Bool} {cnt : Nat} (h : RangeFn w b r ke f left cnt) : MapFn w b ke f := let ⟨es, c, _, _, _, h1, h2, _⟩ := h; ⟨es, c, h1, h2⟩
theorem RangeFn.ne {left : κ → Bool} {cnt : Nat} (h : RangeFn w b r ke f left cnt) : b ≠ r := by
  obtain ⟨es, c, _, _, _, h1, _, h3, _⟩ := h
  intro e; subst e; rw [h1] at h3; cases h3
theorem RangeFn.lt {left : κ → Bool} {cnt : Nat} (h : RangeFn w b r ke f left cnt) : r < w.heap.size := by
  obtain ⟨es, c, _, _, _, h1, _, h3, _⟩ := h
  exact lt_of_heap h3
theorem RangeFn.keep {left : κ → Bool} {cnt : Nat} (h : RangeFn w b r ke f left cnt) {w' : World} (hb : w'.heap[b]? = w.heap[b]?) (hr : w'.heap[r]? = w.heap[r]?) : RangeFn w' b r ke f left cnt := by
  obtain ⟨es, c, s, n, l, h1, h2, h3, h4⟩ := h
  exact ⟨es, c, s, n, l, hb.trans h1, h2, hr.trans h3, h4⟩
theorem RangeFn.fr {left : κ → Bool} {cnt : Nat} (h : RangeFn w b r ke f left cnt) {S : Nat → Prop} {w' : World} (hf : Fr S w w') (h1 : ¬ S b) (h2 : ¬ S r) : RangeFn w' b r ke f left cnt :=
  h.keep (hf.block b h.map.lt h1) (hf.block r h.lt h2)

/-- 'range m'. -/
theorem MapFn.range (h : MapFn w b ke f) (K : KeyOK P kt ke) (ht : P.underlying t = some (.map kt et)) {ks : List κ} (hn : ks.Nodup) (hm : ∀ k, k ∈ ks ↔ (f k).isSome = true) :
    ∃ o, (Instr.range t (.map (some b))).run P w = .ok (.pointer (some ⟨w.heap.size, 0, none⟩)) (w.alloc o) ∧ RangeFn (w.alloc o) b w.heap.size ke f (fun k => (f k).isSome) ks.length := by
  have hlt := h.lt
  obtain ⟨es, clock, hb, he⟩ := h
  refine ⟨_, run_range_map w t kt et b es clock ht hb, es, clock, clock, #[], clock, ?_, he, heap_alloc_new w _, Nat.le_refl _, Nat.le_refl _, he.elder, fun _ h => h, ?_, ?_⟩
  · rw [Below.heap_alloc _ _ _ hlt]; exact hb
  · intro e hem k hk
    obtain ⟨j, hj, hv⟩ := he.sound e hem
    have e1 := K.inj (hk.symm.trans hj)
    subst e1
    simp [hv]
  · rw [List.filter_eq_self.2 (by simp)]
    simpa using he.size K hn hm

theorem leftOf_size (es : Array MapEntry) (seen : Array Nat) : (leftOf es seen).size = ((es.toList.map (·.born)).filter fun x => !seen.contains x).length := by
  rw [List.filter_map, List.length_map]
  simp [leftOf, ← Array.length_toList, Function.comp_def]

/-- The step. -/
theorem RangeFn.next {left : κ → Bool} {cnt : Nat} (h : RangeFn w b r ke f left cnt) (K : KeyOK P kt ke) (ty : TypeId) :
    (cnt = 0 ∧ (∀ k, left k = false) ∧ (Instr.next (.pointer (some ⟨r, 0, none⟩)) false ty).run P w = .ok (.tuple #[.bool false]) w) ∨
    ∃ k v w1, left k = true ∧ f k = some v ∧ (Instr.next (.pointer (some ⟨r, 0, none⟩)) false ty).run P w = .ok (.tuple #[.bool true, ke k, v]) w1 ∧ 0 < cnt ∧
      RangeFn w1 b r ke f (fun j => left j && !decide (j = k)) (cnt - 1) ∧ Fr (fun i => i = r) w w1 ∧ w1.heap.size = w.heap.size ∧
      (Instr.entry (.pointer (some ⟨r, 0, none⟩))).run P w1 = .ok (.tuple #[ke k, v]) w1 := by
  have hne := h.ne
  have hlt := h.lt
  obtain ⟨es, clock, since, seen, last, hb, he, hr, hsl, hsc, hold, hls, hseen, hcnt⟩ := h
  rcases run_next_at (P := P) w ty r b since last seen es clock hr hb hold hsl with ⟨h0, hrun⟩ | ⟨e, hem, w1, hw1, hrun⟩
  · left
    rw [leftOf_size, hcnt] at h0
    refine ⟨h0, fun k => ?_, hrun⟩
    cases hl : left k with
    | false => rfl
    | true =>
      obtain ⟨v, hv⟩ := Option.isSome_iff_exists.1 (hls k hl)
      obtain ⟨e, hem, hk, _⟩ := he.whole k v hv
      have h1 := hseen e hem k hk
      rw [hl] at h1
      rw [h0, List.length_eq_zero_iff, List.filter_eq_nil_iff] at hcnt
      have := hcnt e.born (List.mem_map.2 ⟨e, hem, rfl⟩)
      rw [h1] at this
      simp at this
  · right
    obtain ⟨hem1, hem2⟩ := mem_left hem
    obtain ⟨k, hk, hv⟩ := he.sound e hem1
    have hlk : left k = true := by
      have := hseen e hem1 k hk
      rw [hem2] at this
      cases hl : left k <;> simp [hl] at this ⊢
    have hw1h : w1.heap = w.heap := by rcases hw1 with rfl | rfl <;> rfl
    have hr1 : (ChangeMaps.setBlock w1 r (.mapIter (some b) since (seen.push e.born) clock)).heap[r]? = some (.mapIter (some b) since (seen.push e.born) clock) := by
      simp [ChangeMaps.setBlock, hw1h, hlt]
    have hb1 : (ChangeMaps.setBlock w1 r (.mapIter (some b) since (seen.push e.born) clock)).heap[b]? = some (.map es clock) := by
      simp only [ChangeMaps.setBlock]
      rw [Array.getElem?_setIfInBounds_ne (Ne.symm hne), hw1h]; exact hb
    have hfr : Fr (fun i => i = r) w (ChangeMaps.setBlock w1 r (.mapIter (some b) since (seen.push e.born) clock)) := by
      refine ⟨?_, ?_, ?_, by simp [ChangeMaps.setBlock, hw1h], fun i _ hi => ?_⟩
      · rcases hw1 with rfl | rfl <;> rfl
      · rcases hw1 with rfl | rfl <;> rfl
      · rcases hw1 with rfl | rfl <;> rfl
      · simp only [ChangeMaps.setBlock]
        rw [Array.getElem?_setIfInBounds_ne (fun e' => hi e'.symm), hw1h]
    have hlen : ((es.toList.map (·.born)).filter fun x => !(seen.push e.born).contains x).length + 1 = cnt := by
      have hmem : e.born ∈ (es.toList.map (·.born)).filter fun x => !seen.contains x := List.mem_filter.2 ⟨List.mem_map.2 ⟨e, hem1, rfl⟩, by rw [hem2]; rfl⟩
      have hnd : ((es.toList.map (·.born)).filter fun x => !seen.contains x).Nodup := (List.filter_sublist).nodup he.borns
      have e1 : ((es.toList.map (·.born)).filter fun x => !(seen.push e.born).contains x) = ((es.toList.map (·.born)).filter fun x => !seen.contains x).erase e.born := by
        rw [hnd.erase_eq_filter, List.filter_filter]
        apply List.filter_congr
        intro x _
        rw [contains_push]
        by_cases hx : x = e.born <;> cases hc : seen.contains x <;> simp [hx, bne]
      rw [e1, List.length_erase_of_mem hmem, hcnt]
      have : 0 < cnt := by rw [← hcnt]; exact List.length_pos_of_mem hmem
      omega
    refine ⟨k, e.val, _, hlk, hv, by rw [← hk]; exact hrun, by omega, ?_, hfr, by simp [ChangeMaps.setBlock, hw1h], by rw [← hk]; exact run_entry_at _ r b since seen es clock e hr1 hb1 hem1 he.borns⟩
    refine ⟨es, clock, since, seen.push e.born, clock, hb1, he, hr1, hsc, hsc, hold, fun j hj => hls j (by simp at hj; exact hj.1), ?_, by omega⟩
    intro x hx j hj
    rw [contains_push, hseen x hx j hj]
    by_cases hjk : j = k
    · subst hjk
      obtain ⟨i1, hi1⟩ := mem_idx hx
      obtain ⟨i2, hi2⟩ := mem_idx hem1
      have : x = e := by
        have := key_inj_at he.keys hi1 hi2 (hj.trans hk.symm)
        subst this
        rw [hi1] at hi2
        exact Option.some.inj hi2
      subst this
      simp
    · have hb2 : ¬ x.born = e.born := by
        intro hbe
        have := born_inj he.borns hx hem1 hbe
        subst this
        exact hjk (K.inj (hj.symm.trans hk))
      simp [hjk, hb2]

theorem filter_eraseIdx {α : Type} (p : α → Bool) : ∀ (l : List α) (i : Nat) (x : α), l[i]? = some x → p x = false → (l.eraseIdx i).filter p = l.filter p
  | [], _, _, h, _ => by simp at h
  | a :: l, 0, x, h, hp => by
    simp only [List.getElem?_cons_zero, Option.some.injEq] at h
    subst h
    simp [hp]
  | a :: l, i + 1, x, h, hp => by
    simp only [List.getElem?_cons_succ] at h
    simp only [List.eraseIdx_cons_succ, List.filter_cons]
    rw [filter_eraseIdx p l i x h hp]

/-- 'delete(m, k)' of a key that has come already (or is none). -/
theorem RangeFn.delete {left : κ → Bool} {cnt : Nat} (h : RangeFn w b r ke f left cnt) (K : KeyOK P kt ke) (ht : P.underlying t = some (.map kt et)) {k : κ} (hk : left k = false) (kt' ty : TypeId) :
    ∃ o, (Builtin.delete_ #[t, kt'] ty #[.map (some b), ke k]).run P w = .ok (.tuple #[]) (put w b o) ∧ RangeFn (put w b o) b r ke (upd f k none) left cnt := by
  have hne := h.ne
  have hltb := h.map.lt
  obtain ⟨es, clock, since, seen, last, hb, he, hr, hsl, hsc, hold, hls, hseen, hcnt⟩ := h
  rcases he.find K w k with ⟨h1, h2⟩ | ⟨i, e, h1, h2, h3, h4⟩
  · refine ⟨.map es clock, ?_, es, clock, since, seen, last, put_same hltb _, by rw [upd_none_self h2]; exact he, by rw [put_ne _ hne]; exact hr, hsl, hsc, hold, by rw [upd_none_self h2]; exact hls, hseen, hcnt⟩
    simp [Builtin.delete_, run_underlying ht, MapKept.run_getObj_map hb, K.check, h1, MapKept.run_setObj_map _ hb, put]
  · obtain ⟨hE, hmem⟩ := he.erase K h2 h3
    refine ⟨.map (es.eraseIdxIfInBounds i) clock, ?_, _, clock, since, seen, last, put_same hltb _, hE, by rw [put_ne _ hne]; exact hr, hsl, hsc, ?_, ?_, ?_, ?_⟩
    · simp [Builtin.delete_, run_underlying ht, MapKept.run_getObj_map hb, K.check, h1, MapKept.run_setObj_map _ hb, put]
    · intro x hx; exact hold x ((hmem x).1 hx).1
    · intro j hj
      have hjk : j ≠ k := fun e' => by subst e'; rw [hk] at hj; cases hj
      rw [upd_ne _ _ hjk]; exact hls j hj
    · intro x hx j hj; exact hseen x ((hmem x).1 hx).1 j hj
    · obtain ⟨hlt, _⟩ := Array.getElem?_eq_some_iff.1 h2
      have hto : (es.eraseIdxIfInBounds i).toList = es.toList.eraseIdx i := by
        unfold Array.eraseIdxIfInBounds
        rw [dif_pos hlt, Array.toList_eraseIdx]
      rw [hto, ChangeMaps.map_eraseIdx, filter_eraseIdx _ _ i e.born (by simp [h2]) (by
        have := hseen e (Array.mem_toList_iff.2 (Array.mem_of_getElem? h2)) k h3
        rw [hk] at this
        simp only [Bool.not_false] at this
        rw [this]; rfl)]
      exact hcnt

/-- 'm[k] = v' at a key that is there. -/
theorem RangeFn.update {left : κ → Bool} {cnt : Nat} (h : RangeFn w b r ke f left cnt) (K : KeyOK P kt ke) (ht : P.underlying t = some (.map kt et)) {k : κ} (hk : (f k).isSome = true) (v : Value) :
    ∃ o, (Instr.mapUpdate t (.map (some b)) (ke k) v).run P w = .ok () (put w b o) ∧ RangeFn (put w b o) b r ke (upd f k (some v)) left cnt := by
  have hne := h.ne
  have hltb := h.map.lt
  obtain ⟨es, clock, since, seen, last, hb, he, hr, hsl, hsc, hold, hls, hseen, hcnt⟩ := h
  rcases he.find K w k with ⟨h1, h2⟩ | ⟨i, e, h1, h2, h3, h4⟩
  · rw [h2] at hk; cases hk
  · have hE := he.modify K h2 h3 v (fun e => { e with key := ke k, val := v }) rfl
    have hat : ∀ x, x ∈ (es.modify i fun e => { e with key := ke k, val := v }).toList → ∃ y ∈ es.toList, y.key = x.key ∧ y.born = x.born := by
      intro x hx
      obtain ⟨j, hj⟩ := mem_idx hx
      rw [get_modify] at hj
      by_cases hij : i = j
      · subst hij
        simp only [if_true, h2, Option.map_some, Option.some.injEq] at hj
        subst hj
        exact ⟨e, Array.mem_toList_iff.2 (Array.mem_of_getElem? h2), h3, rfl⟩
      · simp only [hij, if_false] at hj
        exact ⟨x, Array.mem_toList_iff.2 (Array.mem_of_getElem? hj), rfl, rfl⟩
    have hborns : (es.modify i fun e => { e with key := ke k, val := v }).toList.map (·.born) = es.toList.map (·.born) := by
      apply List.ext_getElem?
      intro j
      simp only [List.getElem?_map, Array.getElem?_toList, get_modify]
      by_cases hij : i = j
      · subst hij; simp [h2]
      · simp [hij]
    refine ⟨.map (es.modify i fun e => { e with key := ke k, val := v }) clock, ?_, _, clock, since, seen, last, put_same hltb _, hE, by rw [put_ne _ hne]; exact hr, hsl, hsc, ?_, ?_, ?_, ?_⟩
    · simp only [Instr.mapUpdate, Sem.run_bind, run_underlying ht, Result.andThen_ok, MapKept.run_getObj_map hb, K.check, h1, h2, Option.map_some, Option.getD_some, Instr.keyThatStays, h3, K.bits, if_true, Sem.run_pure, MapKept.run_setObj_map _ hb]
      rfl
    · intro x hx
      obtain ⟨y, hy, _, hb'⟩ := hat x hx
      rw [← hb']; exact hold y hy
    · intro j hj
      by_cases hjk : j = k
      · subst hjk; simp
      · rw [upd_ne _ _ hjk]; exact hls j hj
    · intro x hx j hj
      obtain ⟨y, hy, hk', hb'⟩ := hat x hx
      rw [← hb']; exact hseen y hy j (hk'.trans hj)
    · rw [hborns]; exact hcnt
end

/-! ### Slices of one-cell elements -/
/-- The slice v holds xs. -/
def Sl (w : World) (v : Value) (xs : List Value) : Prop :=
  ∃ ao cap, v = .slice ao xs.length cap ∧ ∀ j u, xs[j]? = some u → ∃ g o, ao = some ⟨g, o, none⟩ ∧ w.cell? ⟨g, o + j, none⟩ = some u

theorem Sl.fr {w w' : World} {v : Value} {xs : List Value} (h : Sl w v xs) (hf : Fr No w w') : Sl w' v xs := by
  obtain ⟨ao, cap, hv, hc⟩ := h
  refine ⟨ao, cap, hv, fun j u hj => ?_⟩
  obtain ⟨g, o, h1, h2⟩ := hc j u hj
  exact ⟨g, o, h1, hf.cell h2 (fun f => f)⟩

theorem own_sl {w : World} {base : Nat} {e : TypeId} {v : Value} {n : Nat} {xs : List Value} (h : w.ownsRow base e 1 v n xs) : Sl w v xs := by
  obtain ⟨h1, h2⟩ := h
  rw [Nat.mul_one] at h1
  rcases h2 with ⟨rfl, rfl⟩ | ⟨g, cap, cur, rfl, hg, hh, hnc, hcm, hsz, htk⟩
  · have : xs = [] := List.eq_nil_of_length_eq_zero h1
    subst this
    exact ⟨none, 0, rfl, by simp⟩
  · subst h1
    refine ⟨some ⟨g, 0, none⟩, cap, rfl, fun j u hj => ⟨g, 0, rfl, ?_⟩⟩
    rw [Nat.mul_one] at htk
    have hlt : j < xs.length := (List.getElem?_eq_some_iff.1 hj).1
    have e : cur[0 + j]? = xs[j]? := by
      rw [← htk, Nat.zero_add, List.getElem?_take, if_pos hlt]; simp
    rw [cell_of_heap hh, e, hj]

theorem own_fr {S : Nat → Prop} {w w' : World} {base : Nat} {e : TypeId} {size : Nat} {v : Value} {n : Nat} {xs : List Value} (h : w.ownsRow base e size v n xs) (hf : Fr S w w') (hs : ∀ k, v.ownBlock = some k → ¬ S k) : w'.ownsRow base e size v n xs := by
  obtain ⟨h1, h2⟩ := h
  refine ⟨h1, ?_⟩
  rcases h2 with h2 | ⟨g, cap, cur, rfl, hg, hh, r⟩
  · exact Or.inl h2
  · exact Or.inr ⟨g, cap, cur, rfl, hg, hf.heap hh (hs g rfl), r⟩

theorem own_ge {w : World} {base : Nat} {e : TypeId} {size : Nat} {v : Value} {n : Nat} {xs : List Value} (h : w.ownsRow base e size v n xs) {k : Nat} (hk : v.ownBlock = some k) : base ≤ k ∧ k < w.heap.size := by
  obtain ⟨_, h2⟩ := h
  rcases h2 with ⟨rfl, _⟩ | ⟨g, cap, cur, rfl, hg, hh, r⟩
  · simp [Value.ownBlock] at hk
  · simp only [Value.ownBlock, Option.some.injEq] at hk
    subst hk
    exact ⟨hg, lt_of_heap hh⟩

theorem own_base {w : World} {base base' : Nat} {e : TypeId} {size : Nat} {v : Value} {n : Nat} {xs : List Value} (h : w.ownsRow base e size v n xs) (hb : base' ≤ base) : w.ownsRow base' e size v n xs := by
  obtain ⟨h1, h2⟩ := h
  refine ⟨h1, ?_⟩
  rcases h2 with h2 | ⟨g, cap, cur, rfl, hg, hh, r⟩
  · exact Or.inl h2
  · exact Or.inr ⟨g, cap, cur, rfl, Nat.le_trans hb hg, hh, r⟩

/-- What is owned, at one place written out. -/
theorem own_at {w : World} {base : Nat} {e : TypeId} {v : Value} {n : Nat} {xs : List Value} (h : w.ownsRow base e 1 v n xs) (hn : 0 < n) :
    ∃ g cap, v = .slice (some ⟨g, 0, none⟩) n cap ∧ base ≤ g ∧ g < w.heap.size ∧ (∀ j u, xs[j]? = some u → w.cell? ⟨g, j, none⟩ = some u) ∧ (∀ j, w.frozen? ⟨g, j, none⟩ = false) ∧
      ∀ j u, j < n → (w.setCell ⟨g, j, none⟩ u).ownsRow base e 1 v n (xs.set j u) := by
  obtain ⟨h1, h2⟩ := h
  rcases h2 with ⟨rfl, h0⟩ | ⟨g, cap, cur, rfl, hg, hh, hnc, hcm, hsz, htk⟩
  · omega
  · refine ⟨g, cap, rfl, hg, lt_of_heap hh, ?_, frozen_of_heap hh, ?_⟩
    · intro j u hj
      rw [Nat.mul_one] at htk h1
      have hlt : j < xs.length := (List.getElem?_eq_some_iff.1 hj).1
      have e : cur[j]? = xs[j]? := by
        rw [← htk, List.getElem?_take, if_pos (by omega)]; simp
      rw [cell_of_heap hh, e, hj]
    · intro j u hj
      refine ⟨by simpa using h1, .inr ⟨g, cap, cur.setIfInBounds j u, rfl, hg, heap_setCell_same hh j u, hnc, hcm, by simpa using hsz, ?_⟩⟩
      rw [← htk]
      apply List.ext_getElem?
      intro i
      simp only [Array.toList_setIfInBounds, List.getElem?_take, List.getElem?_set, List.length_take]
      by_cases hi : i < n * 1
      · simp only [hi, if_true]
        by_cases hji : j = i
        · subst hji
          have h3 : j < cur.size := by omega
          simp [h3]; omega
        · simp [hji]
      · simp only [hi, if_false]
        rw [if_neg (by omega)]

theorem own_nil (w : World) (base : Nat) (e : TypeId) (size : Nat) : w.ownsRow base e size (.slice none 0 0) 0 [] := ⟨by simp, .inl ⟨rfl, rfl⟩⟩
end Go.Tag
