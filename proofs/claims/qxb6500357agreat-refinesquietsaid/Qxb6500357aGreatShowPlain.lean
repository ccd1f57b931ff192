/- What the store shows, plainly. -/
import Derived.Test.Qxb6500357aGreatState3
import Derived.Test.Qxb6500357aGreatSortPlain
namespace Go.Tag
open Go.RowKit
set_option linter.unusedVariables false
set_option linter.unusedSimpArgs false

def docStr (s : St) (i : Int) : List UInt8 := itoa i.toNat ++ [47] ++ itoa (s.groupOf i).toNat ++ [47] ++ s.textOf i ++ [59]
def docsStr (s : St) (l : List Int) : List UInt8 := l.flatMap (docStr s)
def St.revL (s : St) : List Int := idsAll.map s.revs
def St.grpL (s : St) : List Int := [0, 1, 2].map fun g => (s.cnt g : Int)
/-- What the store shows. -/
def St.show (s : St) : List UInt8 := docsStr s s.ids ++ [124] ++ ints s.revL ++ [124] ++ ints s.grpL

theorem docsStr_snoc (s : St) (l : List Int) (i : Int) : docsStr s (l ++ [i]) = docsStr s l ++ docStr s i := by simp [docsStr]
theorem textOf_len {s : St} {B : Int} (h : Fine s B) (i : Int) : (s.textOf i).length ≤ 12 := by
  unfold St.textOf
  cases hd : s.docs i with
  | none => simp
  | some d => exact (h.dom i d hd).2.2.1
theorem docStr_len {s : St} {B : Int} (h : Fine s B) (i : Int) : (docStr s i).length ≤ 60 := by
  have h1 := itoa_len i.toNat; have h2 := itoa_len (s.groupOf i).toNat; have h3 := textOf_len h i
  simp [docStr]; omega
theorem docsStr_len {s : St} {B : Int} (h : Fine s B) (l : List Int) : (docsStr s l).length ≤ 60 * l.length := by
  induction l with
  | nil => simp [docsStr]
  | cons a l ih =>
    have e : docsStr s (a :: l) = docStr s a ++ docsStr s l := by simp [docsStr]
    have := docStr_len h a
    rw [e]; simp; omega
theorem show_len {s : St} {B : Int} (h : Fine s B) : s.show.length ≤ 1000 := by
  have h1 := docsStr_len h s.ids
  have h2 := ints_len s.revL
  have h3 := ints_len s.grpL
  have h4 := h.size
  have e1 : s.revL.length = 9 := by simp [St.revL, idsAll]
  have e2 : s.grpL.length = 3 := by simp [St.grpL]
  simp [St.show]; omega
theorem revL_get (s : St) (j : Nat) (h : j < 9) : s.revL[j]? = some (s.revs ((j : Int) + 1)) := by
  unfold St.revL idsAll
  rcases j with _ | _ | _ | _ | _ | _ | _ | _ | _ | j <;> first | rfl | omega
theorem grpL_get (s : St) (j : Nat) (h : j < 3) : s.grpL[j]? = some (s.cnt (j : Int) : Int) := by
  unfold St.grpL
  rcases j with _ | _ | _ | j <;> first | rfl | omega
theorem revL_mem {s : St} {B : Int} (h : Fine s B) : ∀ n ∈ s.revL, 0 ≤ n ∧ n ≤ B := by
  intro n hn
  obtain ⟨i, -, rfl⟩ := List.mem_map.1 hn
  exact h.revs i
theorem grpL_mem (s : St) : ∀ n ∈ s.grpL, 0 ≤ n ∧ n ≤ 9 := by
  intro n hn
  obtain ⟨i, -, rfl⟩ := List.mem_map.1 hn
  have h1 := cnt_le s i; have h2 := ids_le s
  omega
/-- A list whose head is that of T. -/
theorem head_set {T L : List Int} {j : Nat} {x : Int} (hl : L.length = T.length) (h : L.take j = T.take j) (hx : T[j]? = some x) : (L.set j x).take (j + 1) = T.take (j + 1) := by
  have hj : j < T.length := (List.getElem?_eq_some_iff.1 hx).1
  apply List.ext_getElem?
  intro i
  have hi := congrArg (·[i]?) h
  simp only [List.getElem?_take] at hi
  rw [List.getElem?_take, List.getElem?_take]
  by_cases h1 : i < j + 1
  · rw [if_pos h1, if_pos h1, List.getElem?_set]
    by_cases h2 : j = i
    · subst h2; rw [if_pos rfl, if_pos (by omega), hx]
    · rw [if_neg h2]
      rw [if_pos (by omega), if_pos (by omega)] at hi
      exact hi
  · rw [if_neg h1, if_neg h1]

/-- A fresh row. -/
theorem own_new (w : World) (base : Nat) (e : TypeId) (cs : Array Value) (n : Nat) (hn : cs.size = n) (hb : base ≤ w.heap.size) (hm : n ≤ maxLen) (xs : List Value) (hx : cs.toList = xs) : (w.alloc (.cells cs e)).ownsRow base e 1 (.slice (some ⟨w.heap.size, 0, none⟩) n n) n xs := by
  subst hx hn
  refine ⟨by simp, .inr ⟨w.heap.size, cs.size, cs, rfl, hb, heap_alloc_new _ _, Nat.le_refl _, hm, by simp, by rw [Nat.mul_one]; exact List.take_of_length_le (by simp)⟩⟩
end Go.Tag
