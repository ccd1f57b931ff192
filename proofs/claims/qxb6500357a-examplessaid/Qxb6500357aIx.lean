/- The inverted index: plain data, and how it lies in memory. -/
import Derived.Test.Qxb6500357aMapW
import Derived.Test.Qxb6500357aState3
namespace Go.Tag
open Go.RowKit
set_option linter.unusedVariables false
set_option linter.unusedSimpArgs false

abbrev Word := List UInt8
/-- Who holds a word. -/
abbrev Has := Word → Int → Bool
def cntW (H : Has) (u : Word) : Nat := (idsAll.filter (H u)).length
def cntBy (H : Has) (grp : Int → Int) (k : Int × Word) : Nat := (idsAll.filter fun i => H k.2 i && decide (grp i = k.1)).length
def addH (H : Has) (u : Word) (id : Int) : Has := fun v i => H v i || (decide (v = u) && decide (i = id))
def subH (H : Has) (u : Word) (id : Int) : Has := fun v i => H v i && !(decide (v = u) && decide (i = id))

def setB (h : Int → Bool) (i : Int) : Option Value := if h i then some (.bool true) else none
def postV (q n : Nat) : Value := .agg #[.map (some q), .int .i64 n]
def fInv (H : Has) (q : Word → Nat) (u : Word) : Option Value := if cntW H u = 0 then none else some (postV (q u) (cntW H u))
def fBy (H : Has) (grp : Int → Int) (k : Int × Word) : Option Value := if cntBy H grp k = 0 then none else some (.int .i64 (cntBy H grp k))

theorem cntW_le (H : Has) (u : Word) : cntW H u ≤ 9 := List.length_filter_le _ idsAll
theorem cntBy_le (H : Has) (grp : Int → Int) (k : Int × Word) : cntBy H grp k ≤ 9 := List.length_filter_le _ idsAll
theorem cntW_pos {H : Has} {u : Word} {i : Int} (h : H u i = true) (hi : 1 ≤ i ∧ i ≤ 9) : 0 < cntW H u :=
  List.length_pos_of_mem (List.mem_filter.2 ⟨(mem_idsAll i).2 hi, h⟩)
theorem cntW_zero {H : Has} {u : Word} (h : cntW H u = 0) {i : Int} (hi : 1 ≤ i ∧ i ≤ 9) : H u i = false := by
  cases hh : H u i with
  | false => rfl
  | true => have := cntW_pos hh hi; omega
theorem cntBy_pos {H : Has} {grp : Int → Int} {u : Word} {i : Int} (h : H u i = true) (hi : 1 ≤ i ∧ i ≤ 9) : 0 < cntBy H grp (grp i, u) :=
  List.length_pos_of_mem (List.mem_filter.2 ⟨(mem_idsAll i).2 hi, by simp [h]⟩)

section
variable {H : Has} {u : Word} {id : Int}
theorem cntW_add (hid : 1 ≤ id ∧ id ≤ 9) (h : H u id = false) (v : Word) : cntW (addH H u id) v = if v = u then cntW H v + 1 else cntW H v := by
  unfold cntW
  by_cases hv : v = u
  · subst hv
    rw [if_pos rfl]
    have := len_filter_upd (addH H v id v) (H v) id (fun i hi => by simp [addH, hi]) idsAll nodup_idsAll ((mem_idsAll id).2 hid)
    simp [addH, h] at this
    simpa [addH] using this
  · rw [if_neg hv]; congr 1
    exact List.filter_congr fun i _ => by simp [addH, hv]
theorem cntW_sub (hid : 1 ≤ id ∧ id ≤ 9) (h : H u id = true) (v : Word) : cntW (subH H u id) v = if v = u then cntW H v - 1 else cntW H v := by
  unfold cntW
  by_cases hv : v = u
  · subst hv
    rw [if_pos rfl]
    have := len_filter_upd (H v) (subH H v id v) id (fun i hi => by simp [subH, hi]) idsAll nodup_idsAll ((mem_idsAll id).2 hid)
    simp [subH, h] at this
    have e : (idsAll.filter (subH H v id v)).length = (idsAll.filter fun i => H v i && !decide (i = id)).length := by
      congr 1; exact List.filter_congr fun i _ => by simp [subH]
    rw [e]; omega
  · rw [if_neg hv]; congr 1
    exact List.filter_congr fun i _ => by simp [subH, hv]
theorem cntBy_add (hid : 1 ≤ id ∧ id ≤ 9) (grp : Int → Int) (h : H u id = false) (k : Int × Word) : cntBy (addH H u id) grp k = if k = (grp id, u) then cntBy H grp k + 1 else cntBy H grp k := by
  unfold cntBy
  by_cases hk : k = (grp id, u)
  · subst hk
    rw [if_pos rfl]
    have := len_filter_upd (fun i => addH H u id u i && decide (grp i = grp id)) (fun i => H u i && decide (grp i = grp id)) id (fun i hi => by simp [addH, hi]) idsAll nodup_idsAll ((mem_idsAll id).2 hid)
    simp [addH, h] at this
    simpa [addH] using this
  · rw [if_neg hk]; congr 1
    refine List.filter_congr fun i _ => ?_
    by_cases hi : i = id
    · subst hi
      by_cases h2 : k.2 = u
      · have h1 : grp i ≠ k.1 := fun e => hk (Prod.ext e.symm h2)
        simp [h1]
      · simp [addH, h2]
    · simp [addH, hi]
theorem cntBy_sub (hid : 1 ≤ id ∧ id ≤ 9) (grp : Int → Int) (h : H u id = true) (k : Int × Word) : cntBy (subH H u id) grp k = if k = (grp id, u) then cntBy H grp k - 1 else cntBy H grp k := by
  unfold cntBy
  by_cases hk : k = (grp id, u)
  · subst hk
    rw [if_pos rfl]
    have := len_filter_upd (fun i => H u i && decide (grp i = grp id)) (fun i => subH H u id u i && decide (grp i = grp id)) id (fun i hi => by simp [subH, hi]) idsAll nodup_idsAll ((mem_idsAll id).2 hid)
    simp [subH, h] at this
    have e : (idsAll.filter fun i => subH H u id u i && decide (grp i = grp id)).length = (idsAll.filter fun i => H u i && !decide (i = id) && decide (grp i = grp id)).length := by
      congr 1; exact List.filter_congr fun i _ => by simp [subH]
    simp only [] at this ⊢
    omega
  · rw [if_neg hk]; congr 1
    refine List.filter_congr fun i _ => ?_
    by_cases hi : i = id
    · subst hi
      by_cases h2 : k.2 = u
      · have h1 : grp i ≠ k.1 := fun e => hk (Prod.ext e.symm h2)
        simp [h1]
      · simp [subH, h2]
    · simp [subH, hi]

theorem fInv_add (hid : 1 ≤ id ∧ id ≤ 9) (q : Word → Nat) (q1 : Nat) (h : H u id = false) : fInv (addH H u id) (fun v => if v = u then q1 else q v) = upd (fInv H q) u (some (postV q1 (cntW H u + 1))) := by
  funext v
  unfold fInv upd
  rw [cntW_add hid h]
  by_cases hv : v = u
  · subst hv; simp
  · simp [hv]
theorem fInv_sub (hid : 1 ≤ id ∧ id ≤ 9) (q : Word → Nat) (h : H u id = true) : fInv (subH H u id) q = upd (fInv H q) u (if cntW H u = 1 then none else some (postV (q u) (cntW H u - 1))) := by
  funext v
  have := cntW_pos h hid
  unfold fInv upd
  rw [cntW_sub hid h]
  by_cases hv : v = u
  · subst hv
    simp only [if_true]
    by_cases h1 : cntW H v = 1
    · simp [h1]
    · rw [if_neg (by omega), if_neg h1]
  · simp [hv]
theorem fBy_add (hid : 1 ≤ id ∧ id ≤ 9) (grp : Int → Int) (h : H u id = false) : fBy (addH H u id) grp = upd (fBy H grp) (grp id, u) (some (.int .i64 ((cntBy H grp (grp id, u) : Int) + 1))) := by
  funext k
  unfold fBy upd
  rw [cntBy_add hid grp h]
  by_cases hk : k = (grp id, u)
  · subst hk; simp
  · simp [hk]
theorem fBy_sub (hid : 1 ≤ id ∧ id ≤ 9) (grp : Int → Int) (h : H u id = true) : fBy (subH H u id) grp = upd (fBy H grp) (grp id, u) (if (cntBy H grp (grp id, u) : Int) = 1 then none else some (.int .i64 ((cntBy H grp (grp id, u) : Int) - 1))) := by
  funext k
  have := cntBy_pos (grp := grp) h hid
  unfold fBy upd
  rw [cntBy_sub hid grp h]
  by_cases hk : k = (grp id, u)
  · subst hk
    simp only [if_true]
    by_cases h1 : cntBy H grp (grp id, u) = 1
    · simp [h1]
    · rw [if_neg (by omega), if_neg (by omega)]
      congr 2; omega
  · simp [hk]
end
theorem setB_add (H : Has) (u : Word) (id : Int) : setB (addH H u id u) = upd (setB (H u)) id (some (.bool true)) := by
  funext i
  unfold setB upd addH
  by_cases hi : i = id <;> simp [hi]
theorem setB_add_other (H : Has) (u v : Word) (id : Int) (h : v ≠ u) : setB (addH H u id v) = setB (H v) := by
  funext i; simp [setB, addH, h]
theorem setB_sub (H : Has) (u : Word) (id : Int) : setB (subH H u id u) = upd (setB (H u)) id none := by
  funext i
  unfold setB upd subH
  by_cases hi : i = id <;> simp [hi]
theorem setB_sub_other (H : Has) (u v : Word) (id : Int) (h : v ≠ u) : setB (subH H u id v) = setB (H v) := by
  funext i; simp [setB, subH, h]
theorem fBy_getD (H : Has) (grp : Int → Int) (k : Int × Word) : (fBy H grp k).getD (.int .i64 0) = .int .i64 (cntBy H grp k) := by
  unfold fBy; by_cases h : cntBy H grp k = 0 <;> simp [h]
theorem fInv_getD (H : Has) (q : Word → Nat) (u : Word) (h : cntW H u ≠ 0) (z : Value) : (fInv H q u).getD z = postV (q u) (cntW H u) := by
  unfold fInv; simp [h]
theorem fInv_getD0 (H : Has) (q : Word → Nat) (u : Word) (h : cntW H u = 0) (z : Value) : (fInv H q u).getD z = z := by
  unfold fInv; simp [h]

/-- The index (H, grp) lies at block x, over the store at b. -/
structure IndexAt (w : World) (F : Nat → Prop) (x b bi bb : Nat) (H : Has) (grp : Int → Int) (q : Word → Nat) : Prop where
  root : w.heap[x]? = some (.cells #[.pointer (some ⟨b, 0, none⟩), .map (some bi), .map (some bb)] 103)
  inv : MapFn w bi kStr (fInv H q)
  set : ∀ u, cntW H u ≠ 0 → MapFn w (q u) kInt (setB (H u))
  inj : ∀ u v, cntW H u ≠ 0 → cntW H v ≠ 0 → q u = q v → u = v
  by_ : MapFn w bb kPair (fBy H grp)
  ne : bi ≠ bb ∧ ∀ u, cntW H u ≠ 0 → q u ≠ bi ∧ q u ≠ bb
  dom : ∀ u i, H u i = true → 1 ≤ i ∧ i ≤ 9
  own : F x ∧ F bi ∧ F bb ∧ ∀ u, cntW H u ≠ 0 → F (q u)

section
variable {w w' : World} {F F' : Nat → Prop} {x b bi bb : Nat} {H : Has} {grp : Int → Int} {q : Word → Nat}
theorem IndexAt.keep (h : IndexAt w F x b bi bb H grp q) (hf : ∀ k, F k → w'.heap[k]? = w.heap[k]?) : IndexAt w' F x b bi bb H grp q :=
  ⟨(hf x h.own.1).trans h.root, h.inv.keep (hf _ h.own.2.1), fun u hu => (h.set u hu).keep (hf _ (h.own.2.2.2 u hu)), h.inj, h.by_.keep (hf _ h.own.2.2.1), h.ne, h.dom, h.own⟩
theorem IndexAt.mono (h : IndexAt w F x b bi bb H grp q) (hf : ∀ k, F k → F' k) : IndexAt w F' x b bi bb H grp q :=
  ⟨h.root, h.inv, h.set, h.inj, h.by_, h.ne, h.dom, hf _ h.own.1, hf _ h.own.2.1, hf _ h.own.2.2.1, fun u hu => hf _ (h.own.2.2.2 u hu)⟩
theorem IndexAt.lt (h : IndexAt w F x b bi bb H grp q) : x < w.heap.size ∧ bi < w.heap.size ∧ bb < w.heap.size ∧ ∀ u, cntW H u ≠ 0 → q u < w.heap.size :=
  ⟨lt_of_heap h.root, h.inv.lt, h.by_.lt, fun u hu => (h.set u hu).lt⟩
theorem IndexAt.bound (h : IndexAt w F x b bi bb H grp q) : IndexAt w (fun k => F k ∧ k < w.heap.size) x b bi bb H grp q :=
  ⟨h.root, h.inv, h.set, h.inj, h.by_, h.ne, h.dom, ⟨h.own.1, h.lt.1⟩, ⟨h.own.2.1, h.lt.2.1⟩, ⟨h.own.2.2.1, h.lt.2.2.1⟩, fun u hu => ⟨h.own.2.2.2 u hu, h.lt.2.2.2 u hu⟩⟩
theorem IndexAt.fr (h : IndexAt w F x b bi bb H grp q) {S : Nat → Prop} (hf : Fr S w w') (hS : ∀ k, F k → ¬ S k) : IndexAt w' F x b bi bb H grp q :=
  ⟨hf.heap h.root (hS _ h.own.1), h.inv.fr hf (hS _ h.own.2.1), fun u hu => (h.set u hu).fr hf (hS _ (h.own.2.2.2 u hu)), h.inj, h.by_.fr hf (hS _ h.own.2.2.1), h.ne, h.dom, h.own⟩
theorem IndexAt.ne_root (h : IndexAt w F x b bi bb H grp q) : bi ≠ x ∧ bb ≠ x ∧ ∀ u, cntW H u ≠ 0 → q u ≠ x :=
  ⟨map_ne_cells h.inv h.root, map_ne_cells h.by_ h.root, fun u hu => map_ne_cells (h.set u hu) h.root⟩
end

theorem own_ne_map {w : World} {base : Nat} {e : TypeId} {v : Value} {n : Nat} {xs : List Value} {b : Nat} {κ : Type} {ke : κ → Value} {f : κ → Option Value} (h : w.ownsRow base e 1 v n xs) (hm : MapFn w b ke f) : v.ownBlock ≠ some b := by
  obtain ⟨h1, h2⟩ := h
  rcases h2 with ⟨rfl, _⟩ | ⟨g, cap, cur, rfl, hg, hh, _⟩
  · simp [Value.ownBlock]
  · have := map_ne_cells hm hh
    simp only [Value.ownBlock, ne_eq, Option.some.injEq]
    exact fun e => this e.symm
end Go.Tag
