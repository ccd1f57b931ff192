/- The documents, as plain data; the store in memory. -/
import Derived.Test.Qxb6500357aGreatMapW
import Derived.Test.Qxb6500357aGreatPlain
namespace Go.Tag
open Go.RowKit
set_option linter.unusedVariables false

structure Doc where
  group : Int
  text : List UInt8

structure St where
  docs : Int → Option Doc
  revs : Int → Int

def idsAll : List Int := [1, 2, 3, 4, 5, 6, 7, 8, 9]
def St.ids (s : St) : List Int := idsAll.filter fun i => (s.docs i).isSome
def St.groupOf (s : St) (i : Int) : Int := match s.docs i with | some d => d.group | none => 0
def St.textOf (s : St) (i : Int) : List UInt8 := match s.docs i with | some d => d.text | none => []
/-- How many documents a group has. -/
def St.cnt (s : St) (g : Int) : Nat := (s.ids.filter fun i => decide (s.groupOf i = g)).length

def St.new : St := ⟨fun _ => none, fun _ => 0⟩
def St.put (s : St) (id : Int) (d : Doc) : St := ⟨fun i => if i = id then some d else s.docs i, fun i => if i = id then s.revs i + 1 else s.revs i⟩
def St.del (s : St) (id : Int) : St := ⟨fun i => if i = id then none else s.docs i, s.revs⟩
def St.drop (s : St) (g : Int) : St := ⟨fun i => if s.groupOf i = g then none else s.docs i, s.revs⟩
def St.reset (s : St) : St := ⟨fun _ => none, s.revs⟩

structure Fine (s : St) (B : Int) : Prop where
  dom : ∀ i d, s.docs i = some d → (1 ≤ i ∧ i ≤ 9) ∧ (0 ≤ d.group ∧ d.group ≤ 2) ∧ d.text.length ≤ 12 ∧ textOK d.text = true
  size : s.ids.length ≤ 6
  revs : ∀ i, 0 ≤ s.revs i ∧ s.revs i ≤ B
  out : ∀ i, ¬ (1 ≤ i ∧ i ≤ 9) → s.revs i = 0

theorem mem_idsAll (i : Int) : i ∈ idsAll ↔ 1 ≤ i ∧ i ≤ 9 := by
  simp only [idsAll, List.mem_cons, List.not_mem_nil, or_false]; omega
theorem nodup_idsAll : idsAll.Nodup := by decide
theorem nodup_ids (s : St) : s.ids.Nodup := (List.filter_sublist).nodup nodup_idsAll
theorem mem_ids {s : St} {B : Int} (h : Fine s B) (i : Int) : i ∈ s.ids ↔ (s.docs i).isSome = true := by
  unfold St.ids
  rw [List.mem_filter, mem_idsAll]
  constructor
  · exact fun h => h.2
  · intro hs
    obtain ⟨d, hd⟩ := Option.isSome_iff_exists.1 hs
    exact ⟨(h.dom i d hd).1, hs⟩

theorem groupOf_some {s : St} {i : Int} {d : Doc} (h : s.docs i = some d) : s.groupOf i = d.group := by unfold St.groupOf; rw [h]
theorem textOf_some {s : St} {i : Int} {d : Doc} (h : s.docs i = some d) : s.textOf i = d.text := by unfold St.textOf; rw [h]

def vDoc (i : Int) (d : Doc) : List Value := [.int .i64 i, .int .i64 d.group, .string (str d.text)]

def docV (i : Int) (d : Doc) : Value := .agg #[.int .i64 i, .int .i64 d.group, .string (str d.text)]
def zeroDoc : Value := .agg #[.int .i64 0, .int .i64 0, .string (str [])]
/-- What Get answers. -/
def St.getErr (s : St) (id : Int) : Int := if 1 ≤ id ∧ id ≤ 9 then (match s.docs id with | some _ => 0 | none => 6) else 2
def St.getDoc (s : St) (id : Int) : Value := match s.docs id with | some d => docV id d | none => zeroDoc
theorem getErr_bad {s : St} {id : Int} (h : ¬ (1 ≤ id ∧ id ≤ 9)) : s.getErr id = 2 := by unfold St.getErr; rw [if_neg h]
theorem getErr_none {s : St} {id : Int} (h : 1 ≤ id ∧ id ≤ 9) (hd : s.docs id = none) : s.getErr id = 6 := by unfold St.getErr; rw [if_pos h, hd]
theorem getErr_some {s : St} {id : Int} (h : 1 ≤ id ∧ id ≤ 9) {d : Doc} (hd : s.docs id = some d) : s.getErr id = 0 := by unfold St.getErr; rw [if_pos h, hd]
theorem getDoc_none {s : St} {id : Int} (hd : s.docs id = none) : s.getDoc id = zeroDoc := by unfold St.getDoc; rw [hd]
theorem getDoc_some {s : St} {id : Int} {d : Doc} (hd : s.docs id = some d) : s.getDoc id = docV id d := by unfold St.getDoc; rw [hd]

/-- The map of the documents, of the revisions, of the groups. -/
def fDocs (s : St) (p : Int → Nat) (i : Int) : Option Value := (s.docs i).map fun _ => .pointer (some ⟨p i, 0, none⟩)
def fNum (f : Int → Int) (i : Int) : Option Value := if f i = 0 then none else some (.int .i64 (f i))
def fGroups (s : St) : Int → Option Value := fNum fun g => (s.cnt g : Int)

/-- The store s lies at block b; its own blocks are among F. -/
structure StoreAt (w : World) (F : Nat → Prop) (b : Nat) (s : St) (bd br bg : Nat) (p : Int → Nat) : Prop where
  root : w.heap[b]? = some (.cells #[.map (some bd), .map (some br), .map (some bg)] 85)
  docs : MapFn w bd kInt (fDocs s p)
  doc : ∀ i d, s.docs i = some d → w.heap[p i]? = some (.cells #[.int .i64 i, .int .i64 d.group, .string (str d.text)] 88)
  inj : ∀ i j d d', s.docs i = some d → s.docs j = some d' → p i = p j → i = j
  revs : MapFn w br kInt (fNum s.revs)
  groups : MapFn w bg kInt (fGroups s)
  ne : bd ≠ br ∧ bd ≠ bg ∧ br ≠ bg
  own : F b ∧ F bd ∧ F br ∧ F bg ∧ ∀ i d, s.docs i = some d → F (p i)

theorem StoreAt.keep {w w' : World} {F : Nat → Prop} {b : Nat} {s : St} {bd br bg : Nat} {p : Int → Nat} (h : StoreAt w F b s bd br bg p) (hf : ∀ k, F k → w'.heap[k]? = w.heap[k]?) : StoreAt w' F b s bd br bg p :=
  ⟨(hf b h.own.1).trans h.root, h.docs.keep (hf bd h.own.2.1), fun i d hd => (hf _ (h.own.2.2.2.2 i d hd)).trans (h.doc i d hd), h.inj, h.revs.keep (hf br h.own.2.2.1), h.groups.keep (hf bg h.own.2.2.2.1), h.ne, h.own⟩

theorem map_ne_cells {w : World} {a b : Nat} {κ : Type} {ke : κ → Value} {f : κ → Option Value} {c : Array Value} {t : TypeId} {fz : Nat × Nat} (h : MapFn w a ke f) (hb : w.heap[b]? = some (.cells c t fz)) : a ≠ b := by
  obtain ⟨es, cl, h1, _⟩ := h
  intro e; subst e; rw [h1] at hb; cases hb

theorem StoreAt.lt {w : World} {F : Nat → Prop} {b : Nat} {s : St} {bd br bg : Nat} {p : Int → Nat} (h : StoreAt w F b s bd br bg p) : b < w.heap.size ∧ bd < w.heap.size ∧ br < w.heap.size ∧ bg < w.heap.size :=
  ⟨lt_of_heap h.root, h.docs.lt, h.revs.lt, h.groups.lt⟩
end Go.Tag
