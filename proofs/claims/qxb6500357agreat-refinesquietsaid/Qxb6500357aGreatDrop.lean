/- The sweep behind a dropped group: plainly, and in memory. -/
import Derived.Test.Qxb6500357aGreatBoth
import Derived.Test.Qxb6500357aGreatWords
namespace Go.Tag
open Go.RowKit
set_option linter.unusedSectionVars false
set_option linter.unusedVariables false
set_option linter.unusedSimpArgs false

/-- 'range m', how many there are left open. -/
theorem MapFn.range0 {κ : Type} [DecidableEq κ] {P : Program} {w : World} {b : Nat} {ke : κ → Value} {f : κ → Option Value} {kt et t : TypeId} (h : MapFn w b ke f) (K : KeyOK P kt ke) (ht : P.underlying t = some (.map kt et)) :
    ∃ o cnt, (Instr.range t (.map (some b))).run P w = .ok (.pointer (some ⟨w.heap.size, 0, none⟩)) (w.alloc o) ∧ RangeFn (w.alloc o) b w.heap.size ke f (fun k => (f k).isSome) cnt := by
  have hlt := h.lt
  obtain ⟨es, clock, hb, he⟩ := h
  refine ⟨_, _, run_range_map w t kt et b es clock ht hb, es, clock, clock, #[], clock, ?_, he, heap_alloc_new w _, Nat.le_refl _, Nat.le_refl _, he.elder, fun _ h => h, ?_, rfl⟩
  · rw [Below.heap_alloc _ _ _ hlt]; exact hb
  · intro e hem k hk
    obtain ⟨j, hj, hv⟩ := he.sound e hem
    have e1 := K.inj (hk.symm.trans hj)
    subst e1
    simp [hv]

def cntI (h : Int → Bool) : Nat := (idsAll.filter h).length
theorem cntI_le (h : Int → Bool) : cntI h ≤ 9 := List.length_filter_le _ idsAll
/-- What is still held: what is left to judge, and what is kept. -/
def mixI (h kp left : Int → Bool) : Int → Bool := fun i => h i && (left i || kp i)
def mixW (H : Has) (kp : Int → Bool) (left : Word → Bool) : Has := fun u i => H u i && (left u || kp i)
def cutH (H : Has) (kp : Int → Bool) : Has := fun u i => H u i && kp i

theorem mixI_start (h kp : Int → Bool) : mixI h kp (fun i => (setB h i).isSome) = h := by
  funext i; unfold mixI setB; cases hh : h i <;> simp [hh]
theorem mixI_end (h kp left : Int → Bool) (hl : ∀ i, left i = false) : mixI h kp left = fun i => h i && kp i := by
  funext i; simp [mixI, hl]
theorem setB_gone (h kp left : Int → Bool) (k : Int) (hk : kp k = false) : upd (setB (mixI h kp left)) k none = setB (mixI h kp (fun j => left j && !decide (j = k))) := by
  funext i
  unfold setB upd mixI
  by_cases hi : i = k
  · subst hi; simp [hk]
  · simp [hi]
theorem mixI_stay (h kp left : Int → Bool) (k : Int) (hk : kp k = true) : mixI h kp (fun j => left j && !decide (j = k)) = mixI h kp left := by
  funext i
  unfold mixI
  by_cases hi : i = k
  · subst hi; simp [hk]
  · simp [hi]
theorem cntI_gone (h kp left : Int → Bool) (k : Int) (hid : 1 ≤ k ∧ k ≤ 9) (hk : kp k = false) (hh : h k = true) (hl : left k = true) : cntI (mixI h kp left) = cntI (mixI h kp (fun j => left j && !decide (j = k))) + 1 := by
  have := len_filter_upd (mixI h kp left) (mixI h kp (fun j => left j && !decide (j = k))) k (fun i hi => by simp [mixI, hi]) idsAll nodup_idsAll ((mem_idsAll k).2 hid)
  simp only [mixI, hk, hh, hl] at this
  simp at this
  unfold cntI
  simpa using this

theorem cntW_mix {H : Has} {kp : Int → Bool} {left : Word → Bool} {u : Word} (h : cntW (mixW H kp left) u ≠ 0) : cntW H u ≠ 0 := by
  intro e
  refine h (List.length_eq_zero_iff.2 (List.filter_eq_nil_iff.2 fun i hi => ?_))
  have := (List.filter_eq_nil_iff.1 (List.length_eq_zero_iff.1 e)) i hi
  simp only [mixW, Bool.and_eq_true, not_and]
  intro hh; exact absurd hh this
theorem mixW_start (H : Has) (kp : Int → Bool) (q : Word → Nat) (hd : ∀ u i, H u i = true → 1 ≤ i ∧ i ≤ 9) : mixW H kp (fun u => (fInv H q u).isSome) = H := by
  funext u i; unfold mixW fInv
  cases hh : H u i with
  | false => rfl
  | true =>
    have := cntW_pos hh (hd u i hh)
    simp [show cntW H u ≠ 0 by omega]
theorem mixW_end (H : Has) (kp : Int → Bool) (left : Word → Bool) (hl : ∀ u, left u = false) : mixW H kp left = cutH H kp := by
  funext u i; simp [mixW, cutH, hl]
theorem mixW_other (H : Has) (kp : Int → Bool) (left : Word → Bool) (k u : Word) (h : u ≠ k) : mixW H kp (fun j => left j && !decide (j = k)) u = mixW H kp left u := by
  funext i; simp [mixW, h]
theorem mixW_at (H : Has) (kp : Int → Bool) (left : Word → Bool) (k : Word) : mixW H kp (fun j => left j && !decide (j = k)) k = fun i => H k i && kp i := by
  funext i; simp [mixW]
theorem mixW_left (H : Has) (kp : Int → Bool) (left : Word → Bool) (k : Word) (h : left k = true) : mixW H kp left k = H k := by
  funext i; simp [mixW, h]
theorem fInv_turn (H : Has) (kp : Int → Bool) (left : Word → Bool) (q : Word → Nat) (k : Word) :
    fInv (mixW H kp (fun j => left j && !decide (j = k))) q = upd (fInv (mixW H kp left) q) k (if cntI (fun i => H k i && kp i) = 0 then none else some (postV (q k) (cntI fun i => H k i && kp i))) := by
  funext u
  unfold upd
  by_cases hu : u = k
  · subst hu
    unfold fInv cntW
    rw [mixW_at, if_pos rfl]; rfl
  · rw [if_neg hu]
    unfold fInv cntW
    rw [mixW_other H kp left k u hu]

/-- The tally behind some rounds. -/
def fByMix (H : Has) (grp : Int → Int) (g : Int) (left : Int × Word → Bool) (k : Int × Word) : Option Value := if k.1 = g ∧ left k = false then none else fBy H grp k
theorem fByMix_start (H : Has) (grp : Int → Int) (g : Int) : fByMix H grp g (fun k => (fBy H grp k).isSome) = fBy H grp := by
  funext k; unfold fByMix
  cases h : fBy H grp k <;> simp [h]
theorem fByMix_end (H : Has) (grp : Int → Int) (g : Int) (kp : Int → Bool) (hk : ∀ u i, H u i = true → kp i = !decide (grp i = g)) (left : Int × Word → Bool) (hl : ∀ k, left k = false) : fByMix H grp g left = fBy (cutH H kp) grp := by
  funext k
  unfold fByMix
  have e : cntBy (cutH H kp) grp k = if k.1 = g then 0 else cntBy H grp k := by
    unfold cntBy cutH
    split
    · next h =>
      rw [List.length_eq_zero_iff, List.filter_eq_nil_iff]
      intro i _
      cases hh : H k.2 i with
      | false => simp
      | true =>
        rw [hk _ _ hh, ← h]
        by_cases e : grp i = k.1 <;> simp [e]
    · next h =>
      congr 1
      refine List.filter_congr fun i _ => ?_
      cases hh : H k.2 i with
      | false => simp
      | true =>
        rw [hk _ _ hh]
        by_cases e : grp i = k.1
        · have : ¬ grp i = g := fun e' => h (e ▸ e')
          simp [e, h]
        · simp [e]
  unfold fBy
  rw [e]
  by_cases h : k.1 = g <;> simp [h, hl]
theorem fByMix_gone (H : Has) (grp : Int → Int) (g : Int) (left : Int × Word → Bool) (k : Int × Word) (hk : k.1 = g) : upd (fByMix H grp g left) k none = fByMix H grp g (fun j => left j && !decide (j = k)) := by
  funext j
  unfold fByMix upd
  by_cases hj : j = k
  · subst hj; simp [hk]
  · simp [hj]
theorem fByMix_stay (H : Has) (grp : Int → Int) (g : Int) (left : Int × Word → Bool) (k : Int × Word) (hk : k.1 ≠ g) : fByMix H grp g left = fByMix H grp g (fun j => left j && !decide (j = k)) := by
  funext j
  unfold fByMix
  by_cases hj : j = k
  · subst hj; simp [hk]
  · simp [hj]

def kept (s : St) (g : Int) (i : Int) : Bool := ((s.drop g).docs i).isSome
theorem cut_hasOf (s : St) (g : Int) : cutH (hasOf s) (kept s g) = hasOf (s.drop g) := by
  funext u i
  unfold cutH kept
  cases hd : (s.drop g).docs i with
  | none => rw [hasOf_none hd]; simp
  | some d =>
    rw [hasOf_some hd]
    have : s.docs i = some d := by
      rw [drop_docs] at hd; split at hd
      · cases hd
      · exact hd
    rw [hasOf_some this]; simp
theorem kept_grp (s : St) (g : Int) (u : Word) (i : Int) (h : hasOf s u i = true) : kept s g i = !decide (s.groupOf i = g) := by
  unfold kept
  rw [drop_docs]
  cases hd : s.docs i with
  | none => rw [hasOf_none hd] at h; cases h
  | some d => by_cases e : s.groupOf i = g <;> simp [e]
theorem drop_grp (s : St) (g : Int) (u : Word) (i : Int) (h : hasOf (s.drop g) u i = true) : s.groupOf i = (s.drop g).groupOf i := by
  cases hd : (s.drop g).docs i with
  | none => rw [hasOf_none hd] at h; cases h
  | some d =>
    have : s.docs i = some d := by
      rw [drop_docs] at hd; split at hd
      · cases hd
      · exact hd
    rw [groupOf_some hd, groupOf_some this]
theorem drop_none {s : St} {B : Int} (h : Fine s B) {g : Int} (hc : s.cnt g = 0) : s.drop g = s := by
  have : (s.drop g).docs = s.docs := by
    funext i
    rw [drop_docs]
    by_cases e : s.groupOf i = g
    · rw [if_pos e]
      cases hd : s.docs i with
      | none => rfl
      | some d =>
        have := cnt_pos (h.dom i d hd).1 hd
        rw [← groupOf_some hd, e] at this; omega
    · rw [if_neg e]
  show St.mk (s.drop g).docs s.revs = s
  rw [this]

/-! ### In memory -/
/-- The sweep over the words, behind some rounds: r ranges over the postings. -/
structure SwAt (w : World) (Fi : Nat → Prop) (x b bi bb : Nat) (H : Has) (kp : Int → Bool) (grp : Int → Int) (q : Word → Nat) (r : Nat) (left : Word → Bool) (cnt : Nat) (wr : World) : Prop where
  root : wr.heap[x]? = some (.cells #[.pointer (some ⟨b, 0, none⟩), .map (some bi), .map (some bb)] 74)
  rng : RangeFn wr bi r kStr (fInv (mixW H kp left) q) left cnt
  set : ∀ u, cntW (mixW H kp left) u ≠ 0 → MapFn wr (q u) kInt (setB (mixW H kp left u))
  by_ : MapFn wr bb kPair (fBy H grp)
  fr : Fr Fi w wr
  new : w.heap.size ≤ r

/-- The sweep over one posting: qu its set, pb the copy's block. -/
def SwIn (wA : World) (h kp : Int → Bool) (qu pb r : Nat) (n : Nat) (wr : World) : Prop :=
  ∃ left cnt, RangeFn wr qu r kInt (setB (mixI h kp left)) left cnt ∧ n = cntI (mixI h kp left) ∧ wr.heap[pb]? = some (.cells #[.map (some qu), .int .i64 (n : Int)] 109) ∧ Fr (fun k => k = qu) wA wr
/-- Behind it. -/
def SwOut (wA : World) (h kp : Int → Bool) (qu pb : Nat) (wr : World) : Prop :=
  MapFn wr qu kInt (setB fun i => h i && kp i) ∧ wr.heap[pb]? = some (.cells #[.map (some qu), .int .i64 (cntI (fun i => h i && kp i) : Int)] 109) ∧ Fr (fun k => k = qu) wA wr

section
variable {w wr w1 : World} {F Fi : Nat → Prop} {x b bi bb : Nat} {H : Has} {kp : Int → Bool} {grp : Int → Int} {q : Word → Nat} {r : Nat} {left : Word → Bool} {cnt : Nat}

theorem swAt_start (h : IndexAt w Fi x b bi bb H grp q) {o : Obj} {cnt : Nat} (hr : RangeFn (w.alloc o) bi w.heap.size kStr (fInv H q) (fun k => (fInv H q k).isSome) cnt) : SwAt w Fi x b bi bb H kp grp q w.heap.size (fun k => (fInv H q k).isSome) cnt (w.alloc o) := by
  have f : Fr No w (w.alloc o) := (Fr.refl No w).alloc o
  have e := mixW_start H kp q h.dom
  refine ⟨f.heap h.root (fun h => h), by rw [e]; exact hr, fun u hu => ?_, h.by_.fr f (fun h => h), f.any, Nat.le_refl _⟩
  rw [e] at hu ⊢
  exact (h.set u hu).fr f (fun h => h)

/-- One posting behind: the world wi is as the inner loop left it, from w1, the world behind 'next'. -/
theorem swAt_step {wi w' : World} {k : Word} (hx : IndexAt w Fi x b bi bb H grp q) (h : SwAt w Fi x b bi bb H kp grp q r left cnt wr) (hl : left k = true) (hf1 : Fr (fun i => i = r) wr w1) (hs1 : wr.heap.size ≤ w1.heap.size) (hr1 : RangeFn w1 bi r kStr (fInv (mixW H kp left) q) (fun j => left j && !decide (j = k)) (cnt - 1))
    (ho : SwOut w1 (H k) kp (q k) w1.heap.size wi) (hk : cntW H k ≠ 0)
    (hn : RangeFn w' bi r kStr (upd (fInv (mixW H kp left) q) k (if cntI (fun i => H k i && kp i) = 0 then none else some (postV (q k) (cntI fun i => H k i && kp i)))) (fun j => left j && !decide (j = k)) (cnt - 1)) (ht : Turned bi wi w') :
    SwAt w Fi x b bi bb H kp grp q r (fun j => left j && !decide (j = k)) (cnt - 1) w' := by
  obtain ⟨o1, o2, o3⟩ := ho
  obtain ⟨m1, m2, m3⟩ := hx.ne_root
  obtain ⟨n1, n2⟩ := hx.ne
  have hrn := h.new
  obtain ⟨l1, l2, l3, l4⟩ := hx.lt
  have hbr : bb ≠ r := by omega
  have hxr : x ≠ r := by omega
  refine ⟨?_, by rw [fInv_turn]; exact hn, fun u hu => ?_, ?_, ?_, hrn⟩
  · rw [ht.other (Ne.symm m1)]
    exact o3.heap (hf1.heap h.root hxr) (Ne.symm (m3 k hk))
  · have hu' := cntW_mix hu
    have a1 := n2 u hu'
    by_cases e : u = k
    · subst e
      rw [mixW_at]
      exact o1.keep (ht.other a1.1)
    · have hc : cntW (mixW H kp left) u ≠ 0 := by
        unfold cntW at hu ⊢; rwa [mixW_other _ _ _ _ _ e] at hu
      rw [mixW_other _ _ _ _ _ e]
      have c1 := (h.set u hc).fr hf1 (by have := l4 u hu'; omega)
      exact (c1.fr o3 (fun e' => e (hx.inj _ _ hu' hk e'))).keep (ht.other a1.1)
  · exact ((h.by_.fr hf1 hbr).fr o3 (Ne.symm (n2 k hk).2)).keep (ht.other (Ne.symm n1))
  · refine ((h.fr.trans' hf1 (fun i hi e => by omega)).trans' o3 (fun i _ e => ?_)).trans' ht.fr (fun i _ e => ?_)
    · subst e; exact hx.own.2.2.2 k hk
    · subst e; exact hx.own.2.1
end
end Go.Tag
