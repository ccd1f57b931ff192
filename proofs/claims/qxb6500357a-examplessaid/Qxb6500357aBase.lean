/- Frames, strings, and maps as functions: laws on the model, over any program. -/
import Derived.WalkKit
import Derived.Maps.RangeWalk
import Derived.Maps.AppendAt
import Derived.WalkSpells
import Derived.WalkLawsBesides
import Derived.BigQuiet
namespace Go.Tag
open Go.RowKit
set_option linter.unusedSectionVars false
set_option linter.unusedSimpArgs false
set_option linter.unusedVariables false

/-! ### Frames -/
/-- From w to w' only blocks of S (and new ones) have turned. -/
structure Fr (S : Nat → Prop) (w w' : World) : Prop where
  os : w'.os = w.os
  tape : w'.tape = w.tape
  output : w'.output = w.output
  size : w.heap.size ≤ w'.heap.size
  block : ∀ k, k < w.heap.size → ¬ S k → w'.heap[k]? = w.heap[k]?

abbrev No : Nat → Prop := fun _ => False

theorem Fr.refl (S : Nat → Prop) (w : World) : Fr S w w := ⟨rfl, rfl, rfl, Nat.le_refl _, fun _ _ _ => rfl⟩
theorem Fr.trans {S : Nat → Prop} {a b c : World} (h : Fr S a b) (k : Fr S b c) : Fr S a c :=
  ⟨k.os.trans h.os, k.tape.trans h.tape, k.output.trans h.output, Nat.le_trans h.size k.size, fun i hi hs => (k.block i (Nat.lt_of_lt_of_le hi h.size) hs).trans (h.block i hi hs)⟩
theorem Fr.mono {S S' : Nat → Prop} {a b : World} (h : Fr S a b) (hs : ∀ k, k < a.heap.size → S k → S' k) : Fr S' a b :=
  ⟨h.os, h.tape, h.output, h.size, fun i hi hn => h.block i hi (fun hk => hn (hs i hi hk))⟩
theorem Fr.any {S : Nat → Prop} {a b : World} (h : Fr No a b) : Fr S a b := h.mono fun _ _ f => f.elim
/-- Two steps, the second one's blocks told by what they are in the first world. -/
theorem Fr.trans' {S S' : Nat → Prop} {a b c : World} (h : Fr S a b) (k : Fr S' b c) (hs : ∀ i, i < a.heap.size → S' i → S i) : Fr S a c :=
  ⟨k.os.trans h.os, k.tape.trans h.tape, k.output.trans h.output, Nat.le_trans h.size k.size,
    fun i hi hn => (k.block i (Nat.lt_of_lt_of_le hi h.size) (fun hk => hn (hs i hi hk))).trans (h.block i hi hn)⟩
theorem Fr.drew {S : Nat → Prop} {a w : World} (h : Fr S a w) : Fr S a w.drew := ⟨h.os, h.tape, h.output, h.size, h.block⟩
theorem Fr.drewN {S : Nat → Prop} {a w : World} (h : Fr S a w) (n : Nat) : Fr S a (w.drewN n) := ⟨h.os, h.tape, h.output, h.size, h.block⟩
theorem Fr.alloc {S : Nat → Prop} {a w : World} (h : Fr S a w) (o : Obj) : Fr S a (w.alloc o) :=
  h.trans' (S' := No) ⟨rfl, rfl, rfl, by simp, fun k hk _ => Below.heap_alloc _ _ _ hk⟩ (fun _ _ f => f.elim)
theorem Fr.setCell {S : Nat → Prop} {a w : World} (h : Fr S a w) {p : Addr} (hp : a.heap.size ≤ p.block ∨ S p.block) (u : Value) : Fr S a (w.setCell p u) := by
  refine h.trans' (S' := fun k => k = p.block) ⟨rfl, rfl, rfl, by simp, fun k _ hn => Below.heap_setCell _ _ _ _ hn⟩ ?_
  rintro i hi rfl
  rcases hp with hp | hp
  · omega
  · exact hp
theorem Fr.grown {S : Nat → Prop} {a w w' : World} {row : Option Nat} (h : Fr S a w) (hg : w.grownBy w' row) (hr : ∀ k, row = some k → a.heap.size ≤ k ∨ S k) : Fr S a w' := by
  refine h.trans' (S' := fun k => row = some k) ⟨hg.os, hg.tape, hg.output, hg.size, fun k hk hn => hg.block k hk (fun e => hn e.symm)⟩ ?_
  intro i hi e
  rcases hr i e with h | h
  · omega
  · exact h
theorem Fr.below {w w' : World} (h : Fr No w w') : Below w.heap.size w w' := ⟨h.os, h.tape, h.output, h.size, fun k hk => h.block k hk (fun f => f)⟩
theorem Fr.of_below {w w' : World} (h : Below w.heap.size w w') : Fr No w w' := ⟨h.os, h.tape, h.output, h.size, fun k hk _ => h.block k hk⟩
theorem Fr.cell {S : Nat → Prop} {w w' : World} (h : Fr S w w') {b o : Nat} {v : Value} (hc : w.cell? ⟨b, o, none⟩ = some v) (hs : ¬ S b) : w'.cell? ⟨b, o, none⟩ = some v := by
  rw [World.cell?_of_block (w := w) (h.block b (World.block_lt_of_cell? _ _ hc) hs)]; exact hc
theorem lt_of_heap {w : World} {b : Nat} {o : Obj} (h : w.heap[b]? = some o) : b < w.heap.size := by
  rcases Nat.lt_or_ge b w.heap.size with h' | h'
  · exact h'
  · simp [Array.getElem?_eq_none h'] at h
theorem Fr.heap {S : Nat → Prop} {w w' : World} (h : Fr S w w') {b : Nat} {o : Obj} (hb : w.heap[b]? = some o) (hs : ¬ S b) : w'.heap[b]? = some o := (h.block b (lt_of_heap hb) hs).trans hb
theorem cell_of_heap {w : World} {b : Nat} {c : Array Value} {t : TypeId} {f : Nat × Nat} (h : w.heap[b]? = some (.cells c t f)) (i : Nat) : w.cell? ⟨b, i, none⟩ = c[i]? := by simp [World.cell?, h]
theorem frozen_of_heap {w : World} {b : Nat} {c : Array Value} {t : TypeId} (h : w.heap[b]? = some (.cells c t)) (i : Nat) : w.frozen? ⟨b, i, none⟩ = false := by simp [World.frozen?, h]
theorem heap_setCell_same {w : World} {b : Nat} {c : Array Value} {t : TypeId} {f : Nat × Nat} (h : w.heap[b]? = some (.cells c t f)) (i : Nat) (v : Value) : (w.setCell ⟨b, i, none⟩ v).heap[b]? = some (.cells (c.setIfInBounds i v) t f) := by
  simp [World.setCell, Array.getElem?_modify, h]

/-- One block laid anew. -/
def put (w : World) (b : Nat) (o : Obj) : World := { w with heap := w.heap.setIfInBounds b o }
theorem put_same {w : World} {b : Nat} (h : b < w.heap.size) (o : Obj) : (put w b o).heap[b]? = some o := by simp [put, h]
theorem put_ne (w : World) {b k : Nat} (h : b ≠ k) (o : Obj) : (put w b o).heap[k]? = w.heap[k]? := by simp [put, Array.getElem?_setIfInBounds_ne h]
@[simp] theorem put_size (w : World) (b : Nat) (o : Obj) : (put w b o).heap.size = w.heap.size := by simp [put]
theorem Fr.put {S : Nat → Prop} {a w : World} (h : Fr S a w) {b : Nat} (hb : a.heap.size ≤ b ∨ S b) (o : Obj) : Fr S a (put w b o) := by
  refine h.trans' (S' := fun k => k = b) ⟨rfl, rfl, rfl, by simp, fun k _ hn => put_ne _ (fun e => hn e.symm) _⟩ ?_
  rintro i hi rfl
  rcases hb with hb | hb
  · omega
  · exact hb

/-! ### Strings -/
/-- The bytes as Go's string. -/
def str (l : List UInt8) : ByteArray := ⟨l.toArray⟩
/-- A weaker relation along a list; the two ways of an 'or', each mapped. -/
theorem pw_to {α : Type} {R S : α → α → Prop} {l : List α} (hl : l.Pairwise R) (h : ∀ {a b : α}, R a b → S a b) : l.Pairwise S := by
  induction hl with
  | nil => exact .nil
  | cons h1 _ ih => exact .cons (fun b hb => h (h1 b hb)) ih
theorem or_to {a b c d : Prop} (h : a ∨ b) (f : a → c) (g : b → d) : c ∨ d := h.elim (fun x => .inl (f x)) (fun x => .inr (g x))
theorem str_append (a b : List UInt8) : str a ++ str b = str (a ++ b) := by
  apply ByteArray.ext
  simp [str, ByteArray.data_append]
theorem str_size (l : List UInt8) : (str l).size = l.length := by simp [str, ByteArray.size]
theorem str_inj {a b : List UInt8} (h : str a = str b) : a = b := by
  have := congrArg (fun s : ByteArray => s.data.toList) h
  simpa [str] using this
theorem str_toList (l : List UInt8) : (str l).toList = l := by rw [ByteArray.toList_eq]; simp [str]
theorem str_of (s : ByteArray) : ∃ l, s = str l := ⟨s.data.toList, by simp [str]⟩
theorem str_data (l : List UInt8) : (str l).data.toList = l := by simp [str]
theorem str_get (l : List UInt8) (i : Nat) (h : i < (str l).size) : (str l)[i] = l[i]'(by rw [← str_size]; exact h) := rfl
theorem str_extract (l : List UInt8) (i j : Nat) : (str l).extract i j = str ((l.take j).drop i) := by
  apply ByteArray.ext
  simp only [str, ByteArray.data_extract, List.extract_toArray, List.extract_eq_take_drop]
  congr 1
  rw [List.drop_take]
theorem str_beq (a b : List UInt8) : (str a == str b) = (a == b) := by
  rw [Bool.eq_iff_iff, MapKept.bytes_beq, beq_iff_eq]
  exact ⟨str_inj, fun h => by rw [h]⟩

/-! ### Keys -/
structure KeyOK {κ : Type} (P : Program) (kt : TypeId) (ke : κ → Value) : Prop where
  inj : ∀ {a b}, ke a = ke b → a = b
  check : ∀ em w k, (Instr.checkKey em 10000 kt (ke k)).run P w = .ok () w
  find : ∀ w k (l : List MapEntry), (∀ e ∈ l, ∃ j, e.key = ke j) →
    ((Instr.findKey kt (ke k) l).run P w = .ok none w ∧ ∀ e ∈ l, e.key ≠ ke k) ∨ ∃ i e, (Instr.findKey kt (ke k) l).run P w = .ok (some (i, e.val)) w ∧ l[i]? = some e ∧ e.key = ke k
  bits : ∀ k, Instr.sameBits 10000 (ke k) (ke k) = true

def kInt (n : Int) : Value := .int .i64 n
def kStr (l : List UInt8) : Value := .string (str l)
def kPair (p : Int × List UInt8) : Value := .agg #[.int .i64 p.1, .string (str p.2)]

theorem keyOK_of_plain {κ : Type} {P : Program} {kt : TypeId} {d : TypeDesc} (hd : P.underlying kt = some d) {ke : κ → Value} (inj : ∀ {a b}, ke a = ke b → a = b) (hk : ∀ k, MapKept.IsKey d (ke k)) (bits : ∀ k, Instr.sameBits 10000 (ke k) (ke k) = true) : KeyOK P kt ke where
  inj := inj
  check := fun em w k => MapKept.run_checkKey hd (hk k) em 9999
  find := fun w k l hl => by
    rcases MapKept.findNow_spec (hk k) l 0 (fun x hx => by obtain ⟨j, e⟩ := hl x hx; rw [e]; exact hk j) with ⟨h1, h2⟩ | ⟨j, e, h1, h2, h3⟩
    · exact .inl ⟨MapKept.run_findKey hd h1, h2⟩
    · exact .inr ⟨j, e, by rw [Nat.zero_add] at h1; exact MapKept.run_findKey hd h1, h2, h3⟩
  bits := bits

theorem keyOK_int {P : Program} {kt : TypeId} (hd : P.underlying kt = some (.int .i64)) : KeyOK P kt kInt :=
  keyOK_of_plain hd (fun h => by simpa [kInt] using h) (fun k => by simp [kInt, MapKept.IsKey]) (fun k => by simp [kInt, Instr.sameBits])
theorem keyOK_str {P : Program} {kt : TypeId} (hd : P.underlying kt = some .string) : KeyOK P kt kStr :=
  keyOK_of_plain hd (fun h => by simp only [kStr, Value.string.injEq] at h; exact str_inj h) (fun k => by simp [kStr, MapKept.IsKey]) (fun k => by simp only [kStr, Instr.sameBits]; exact (MapKept.bytes_beq _ _).2 rfl)

theorem keyOK_pair {P : Program} {kt : TypeId} {fs : Array Field} (hd : P.underlying kt = some (.struct fs)) (heq : ∀ w a b, (Op.equal kt (kPair a) (kPair b)).run P w = .ok (decide (a = b)) w)
    (hck : ∀ em w k, (Instr.checkKey em 10000 kt (kPair k)).run P w = .ok () w) : KeyOK P kt kPair where
  inj := fun {a b} h => by
    simp only [kPair, Value.agg.injEq, Array.mk.injEq, List.cons.injEq, Value.int.injEq, Value.string.injEq, true_and, and_true] at h
    exact Prod.ext h.1 (str_inj h.2)
  check := hck
  find := fun w k l hl => by
    have key : ∀ (l : List MapEntry) (i : Nat), (∀ e ∈ l, ∃ j, e.key = kPair j) →
        ((Instr.findAsking kt (kPair k) l i).run P w = .ok none w ∧ ∀ e ∈ l, e.key ≠ kPair k) ∨ ∃ j e, (Instr.findAsking kt (kPair k) l i).run P w = .ok (some (i + j, e.val)) w ∧ l[j]? = some e ∧ e.key = kPair k := by
      intro l
      induction l with
      | nil => intro i _; exact .inl ⟨rfl, by simp⟩
      | cons e es ih =>
        intro i hl
        obtain ⟨j, hj⟩ := hl e (by simp)
        have hr := heq w k j
        by_cases hkj : k = j
        · right
          subst hkj
          refine ⟨0, e, ?_, rfl, hj⟩
          simp only [Instr.findAsking, hj, Sem.run_bind, hr, Result.andThen_ok, decide_true, if_true]
          rfl
        · have hne : e.key ≠ kPair k := by
            intro h
            rw [hj] at h
            simp only [kPair, Value.agg.injEq, Array.mk.injEq, List.cons.injEq, Value.int.injEq, Value.string.injEq, true_and, and_true] at h
            exact hkj (Prod.ext h.1.symm (str_inj h.2).symm)
          rcases ih (i + 1) (fun x hx => hl x (by simp [hx])) with ⟨h1, h2⟩ | ⟨m, e', h1, h2, h3⟩
          · left
            refine ⟨?_, ?_⟩
            · simp only [Instr.findAsking, hj, Sem.run_bind, hr, Result.andThen_ok, hkj, decide_false, Bool.false_eq_true, if_false]; exact h1
            · intro x hx
              rcases List.mem_cons.1 hx with rfl | hx
              · exact hne
              · exact h2 x hx
          · right
            refine ⟨m + 1, e', ?_, by simpa using h2, h3⟩
            simp only [Instr.findAsking, hj, Sem.run_bind, hr, Result.andThen_ok, hkj, decide_false, Bool.false_eq_true, if_false]
            rw [h1, show i + (m + 1) = i + 1 + m from by omega]
    have hw := run_findKey_eq (P := P) w (k := kt) (by rw [hd]) (kPair k) l
    rcases key l 0 hl with ⟨h1, h2⟩ | ⟨m, e', h1, h2, h3⟩
    · exact .inl ⟨by rw [hw]; exact h1, h2⟩
    · exact .inr ⟨m, e', by rw [hw, h1, Nat.zero_add], h2, h3⟩
  bits := fun k => by
    have hs : (str k.2 == str k.2) = true := (MapKept.bytes_beq _ _).2 rfl
    simp [kPair, Instr.sameBits, hs]

/-! ### A map as a function -/
/-- The entries tell the function f. -/
structure Ents {κ : Type} (ke : κ → Value) (f : κ → Option Value) (es : Array MapEntry) (clock : Nat) : Prop where
  sound : ∀ e ∈ es.toList, ∃ k, e.key = ke k ∧ f k = some e.val
  whole : ∀ k v, f k = some v → ∃ e ∈ es.toList, e.key = ke k ∧ e.val = v
  keys : (es.toList.map (·.key)).Nodup
  borns : (es.toList.map (·.born)).Nodup
  elder : ∀ e ∈ es.toList, e.born < clock

/-- Block b is a map that tells the function f. -/
def MapFn {κ : Type} (w : World) (b : Nat) (ke : κ → Value) (f : κ → Option Value) : Prop :=
  ∃ es clock, w.heap[b]? = some (.map es clock) ∧ Ents ke f es clock

section
variable {κ : Type} [DecidableEq κ] {P : Program} {w : World} {b : Nat} {ke : κ → Value} {f : κ → Option Value} {kt et t : TypeId}

theorem MapFn.lt (h : MapFn w b ke f) : b < w.heap.size := let ⟨_, _, h1, _⟩ := h; lt_of_heap h1
theorem MapFn.keep (h : MapFn w b ke f) {w' : World} (hb : w'.heap[b]? = w.heap[b]?) : MapFn w' b ke f := let ⟨es, c, h1, h2⟩ := h; ⟨es, c, hb.trans h1, h2⟩
theorem MapFn.fr (h : MapFn w b ke f) {S : Nat → Prop} {w' : World} (hf : Fr S w w') (hs : ¬ S b) : MapFn w' b ke f := h.keep (hf.block b h.lt hs)
theorem MapFn.congr (h : MapFn w b ke f) {g : κ → Option Value} (hg : ∀ k, g k = f k) : MapFn w b ke g := by rw [show g = f from funext hg]; exact h

theorem Ents.empty (clock : Nat) : Ents ke (fun _ => none) #[] clock := ⟨by simp, by simp, by simp, by simp, by simp⟩

/-- What the map's search finds. -/
theorem Ents.find (K : KeyOK P kt ke) {es : Array MapEntry} {clock : Nat} (h : Ents ke f es clock) (w : World) (k : κ) :
    ((Instr.findKey kt (ke k) es.toList).run P w = .ok none w ∧ f k = none) ∨
    ∃ i e, (Instr.findKey kt (ke k) es.toList).run P w = .ok (some (i, e.val)) w ∧ es[i]? = some e ∧ e.key = ke k ∧ f k = some e.val := by
  rcases K.find w k es.toList (fun e he => by obtain ⟨j, hj, _⟩ := h.sound e he; exact ⟨j, hj⟩) with ⟨h1, h2⟩ | ⟨i, e, h1, h2, h3⟩
  · left
    refine ⟨h1, ?_⟩
    cases hf : f k with
    | none => rfl
    | some v =>
      obtain ⟨e, he, hk, _⟩ := h.whole k v hf
      exact absurd hk (h2 e he)
  · right
    refine ⟨i, e, h1, by simpa using h2, h3, ?_⟩
    obtain ⟨j, hj, hv⟩ := h.sound e (List.mem_of_getElem? h2)
    rw [show k = j from K.inj (h3.symm.trans hj)]
    exact hv

/-- 'm[k]', 'v, ok := m[k]'. -/
theorem MapFn.lookup (h : MapFn w b ke f) (K : KeyOK P kt ke) (ht : P.underlying t = some (.map kt et)) {z : Value} (hz : (zeroValue et).run P w = .ok z w) (k : κ) (ok : Bool) :
    (Instr.lookup t (.map (some b)) (ke k) ok).run P w = .ok (if ok then .tuple #[(f k).getD z, .bool (f k).isSome] else (f k).getD z) w := by
  obtain ⟨es, clock, hb, he⟩ := h
  simp only [Instr.lookup, Sem.run_bind, run_underlying ht, Result.andThen_ok, MapKept.run_getObj_map hb, K.check]
  rcases he.find K w k with ⟨h1, h2⟩ | ⟨i, e, h1, h2, h3, h4⟩
  · simp [h1, h2, hz, K.check]
  · simp [h1, h4, K.check]

theorem MapFn.lookup_v (h : MapFn w b ke f) (K : KeyOK P kt ke) (ht : P.underlying t = some (.map kt et)) {z : Value} (hz : (zeroValue et).run P w = .ok z w) (k : κ) :
    (Instr.lookup t (.map (some b)) (ke k) false).run P w = .ok ((f k).getD z) w := by simpa using h.lookup K ht hz k false
theorem MapFn.lookup_ok (h : MapFn w b ke f) (K : KeyOK P kt ke) (ht : P.underlying t = some (.map kt et)) {z : Value} (hz : (zeroValue et).run P w = .ok z w) (k : κ) :
    (Instr.lookup t (.map (some b)) (ke k) true).run P w = .ok (.tuple #[(f k).getD z, .bool (f k).isSome]) w := by simpa using h.lookup K ht hz k true

def upd (f : κ → Option Value) (k : κ) (v : Option Value) : κ → Option Value := fun j => if j = k then v else f j
@[simp] theorem upd_same (f : κ → Option Value) (k : κ) (v : Option Value) : upd f k v k = v := by simp [upd]
theorem upd_ne (f : κ → Option Value) {k j : κ} (v : Option Value) (h : j ≠ k) : upd f k v j = f j := by simp [upd, h]

theorem key_inj_at {es : Array MapEntry} (hn : (es.toList.map (·.key)).Nodup) {i j : Nat} {x y : MapEntry} (hi : es[i]? = some x) (hj : es[j]? = some y) (h : x.key = y.key) : i = j := by
  obtain ⟨hi1, hi2⟩ := Array.getElem?_eq_some_iff.1 hi
  obtain ⟨hj1, hj2⟩ := Array.getElem?_eq_some_iff.1 hj
  have h1 : (es.toList.map (·.key))[i]'(by simpa using hi1) = (es.toList.map (·.key))[j]'(by simpa using hj1) := by simp [hi2, hj2, h]
  rcases Nat.lt_trichotomy i j with h | h | h
  · exact absurd h1 (List.pairwise_iff_getElem.1 hn i j _ _ h)
  · exact h
  · exact absurd h1.symm (List.pairwise_iff_getElem.1 hn j i _ _ h)

theorem mem_idx {es : Array MapEntry} {x : MapEntry} (h : x ∈ es.toList) : ∃ j : Nat, es[j]? = some x := by
  obtain ⟨j, hj, e⟩ := List.getElem_of_mem h
  exact ⟨j, by rw [← Array.getElem?_toList, List.getElem?_eq_getElem hj, e]⟩

theorem Ents.push {es : Array MapEntry} {clock : Nat} (h : Ents ke f es clock) (K : KeyOK P kt ke) {k : κ} (hf : f k = none) (v : Value) : Ents ke (upd f k (some v)) (es.push { key := ke k, val := v, born := clock }) (clock + 1) := by
  have hnk : ∀ e ∈ es.toList, e.key ≠ ke k := by
    intro e he hk
    obtain ⟨j, hj, hv⟩ := h.sound e he
    rw [← K.inj (hk.symm.trans hj), hf] at hv
    cases hv
  refine ⟨?_, ?_, ?_, ?_, ?_⟩
  · intro e he
    simp only [Array.toList_push, List.mem_append, List.mem_singleton] at he
    rcases he with he | rfl
    · obtain ⟨j, hj, hv⟩ := h.sound e he
      exact ⟨j, hj, by rw [upd_ne _ _ (fun e' => hnk e he (by rw [hj, e']))]; exact hv⟩
    · exact ⟨k, rfl, by simp⟩
  · intro j v' hv
    by_cases hj : j = k
    · subst hj
      simp only [upd_same, Option.some.injEq] at hv
      subst hv
      exact ⟨{ key := ke j, val := v, born := clock }, by simp, rfl, rfl⟩
    · rw [upd_ne _ _ hj] at hv
      obtain ⟨e, he, h1, h2⟩ := h.whole j v' hv
      exact ⟨e, by simp [Array.mem_toList_iff.1 he], h1, h2⟩
  · simp only [Array.toList_push, List.map_append, List.map_cons, List.map_nil]
    rw [List.nodup_append]
    refine ⟨h.keys, by simp, ?_⟩
    intro a ha b hb e
    simp only [List.mem_singleton] at hb
    obtain ⟨x, hx, rfl⟩ := List.mem_map.1 ha
    exact hnk x hx (e.trans hb)
  · simp only [Array.toList_push, List.map_append, List.map_cons, List.map_nil]
    rw [List.nodup_append]
    refine ⟨h.borns, by simp, ?_⟩
    intro a ha b hb e
    simp only [List.mem_singleton] at hb
    obtain ⟨x, hx, rfl⟩ := List.mem_map.1 ha
    have := h.elder x hx
    omega
  · intro e he
    simp only [Array.toList_push, List.mem_append, List.mem_singleton] at he
    rcases he with he | rfl
    · have := h.elder e he; omega
    · exact Nat.lt_succ_self _

theorem get_modify (es : Array MapEntry) (i : Nat) (g : MapEntry → MapEntry) (j : Nat) : (es.modify i g)[j]? = if i = j then (es[j]?).map g else es[j]? := by
  rw [Array.getElem?_modify]

theorem Ents.modify {es : Array MapEntry} {clock : Nat} (h : Ents ke f es clock) (K : KeyOK P kt ke) {k : κ} {i : Nat} {e : MapEntry} (hi : es[i]? = some e) (hk : e.key = ke k) (v : Value) (g : MapEntry → MapEntry) (hg : g e = { key := ke k, val := v, born := e.born }) :
    Ents ke (upd f k (some v)) (es.modify i g) clock := by
  have hmem : ∀ x, x ∈ (es.modify i g).toList → x = { key := ke k, val := v, born := e.born } ∨ (x ∈ es.toList ∧ x.key ≠ ke k) := by
    intro x hx
    obtain ⟨j, hj⟩ := mem_idx hx
    rw [get_modify] at hj
    by_cases hij : i = j
    · subst hij
      simp only [if_true, hi, Option.map_some, Option.some.injEq] at hj
      left; rw [← hj, hg]
    · simp only [hij, if_false] at hj
      right
      refine ⟨Array.mem_toList_iff.2 (Array.mem_of_getElem? hj), fun e' => hij ?_⟩
      exact key_inj_at h.keys hi hj (hk.trans e'.symm)
  have hkeys : (es.modify i g).toList.map (·.key) = es.toList.map (·.key) := by
    apply List.ext_getElem?
    intro j
    simp only [List.getElem?_map, Array.getElem?_toList, get_modify]
    by_cases hij : i = j
    · subst hij; simp [hi, hg, hk]
    · simp [hij]
  have hborns : (es.modify i g).toList.map (·.born) = es.toList.map (·.born) := by
    apply List.ext_getElem?
    intro j
    simp only [List.getElem?_map, Array.getElem?_toList, get_modify]
    by_cases hij : i = j
    · subst hij; simp [hi, hg]
    · simp [hij]
  refine ⟨?_, ?_, by rw [hkeys]; exact h.keys, by rw [hborns]; exact h.borns, ?_⟩
  · intro x hx
    rcases hmem x hx with rfl | ⟨hx', hne⟩
    · exact ⟨k, rfl, by simp⟩
    · obtain ⟨j, hj, hv⟩ := h.sound x hx'
      exact ⟨j, hj, by rw [upd_ne _ _ (fun e' => hne (by rw [hj, e']))]; exact hv⟩
  · intro j v' hv
    by_cases hj : j = k
    · subst hj
      simp only [upd_same, Option.some.injEq] at hv
      subst hv
      refine ⟨g e, ?_, by rw [hg], by rw [hg]⟩
      have : (es.modify i g)[i]? = some (g e) := by rw [get_modify]; simp [hi]
      exact Array.mem_toList_iff.2 (Array.mem_of_getElem? this)
    · rw [upd_ne _ _ hj] at hv
      obtain ⟨x, hx, h1, h2⟩ := h.whole j v' hv
      obtain ⟨m, hm⟩ := mem_idx hx
      refine ⟨x, ?_, h1, h2⟩
      have hne : i ≠ m := fun e' => by
        subst e'
        rw [hi] at hm
        obtain rfl := Option.some.inj hm
        exact hj (K.inj (h1.symm.trans hk))
      have : (es.modify i g)[m]? = some x := by rw [get_modify]; simp [hne, hm]
      exact Array.mem_toList_iff.2 (Array.mem_of_getElem? this)
  · intro x hx
    rcases hmem x hx with rfl | ⟨hx', _⟩
    · exact h.elder e (Array.mem_toList_iff.2 (Array.mem_of_getElem? hi))
    · exact h.elder x hx'

theorem Ents.erase {es : Array MapEntry} {clock : Nat} (h : Ents ke f es clock) (K : KeyOK P kt ke) {k : κ} {i : Nat} {e : MapEntry} (hi : es[i]? = some e) (hk : e.key = ke k) :
    Ents ke (upd f k none) (es.eraseIdxIfInBounds i) clock ∧ ∀ x, x ∈ (es.eraseIdxIfInBounds i).toList ↔ x ∈ es.toList ∧ x.key ≠ ke k := by
  obtain ⟨hlt, he⟩ := Array.getElem?_eq_some_iff.1 hi
  have hto : (es.eraseIdxIfInBounds i).toList = es.toList.eraseIdx i := by
    unfold Array.eraseIdxIfInBounds
    rw [dif_pos hlt, Array.toList_eraseIdx]
  have hsub : (es.toList.eraseIdx i).Sublist es.toList := List.eraseIdx_sublist _ _
  have hmem : ∀ x, x ∈ es.toList.eraseIdx i ↔ x ∈ es.toList ∧ x.key ≠ ke k := by
    intro x
    rw [List.mem_eraseIdx_iff_getElem?]
    constructor
    · rintro ⟨j, hj, hx⟩
      refine ⟨List.mem_of_getElem? hx, fun e' => hj ?_⟩
      exact (key_inj_at h.keys hi (by simpa using hx) (hk.trans e'.symm)).symm
    · rintro ⟨hx, hne⟩
      obtain ⟨j, hj⟩ := mem_idx hx
      refine ⟨j, fun e' => hne ?_, by simpa using hj⟩
      subst e'
      rw [hi] at hj
      obtain rfl := Option.some.inj hj
      exact hk
  refine ⟨⟨?_, ?_, ?_, ?_, ?_⟩, by rw [hto]; exact hmem⟩
  · intro x hx
    rw [hto, hmem] at hx
    obtain ⟨j, hj, hv⟩ := h.sound x hx.1
    exact ⟨j, hj, by rw [upd_ne _ _ (fun e' => hx.2 (by rw [hj, e']))]; exact hv⟩
  · intro j v hv
    by_cases hj : j = k
    · subst hj; simp at hv
    · rw [upd_ne _ _ hj] at hv
      obtain ⟨x, hx, h1, h2⟩ := h.whole j v hv
      exact ⟨x, by rw [hto, hmem]; exact ⟨hx, fun e' => hj (K.inj (h1.symm.trans e'))⟩, h1, h2⟩
  · rw [hto]; exact (hsub.map _).nodup h.keys
  · rw [hto]; exact (hsub.map _).nodup h.borns
  · intro x hx
    rw [hto] at hx
    exact h.elder x (hsub.subset hx)

theorem upd_none_self {f : κ → Option Value} {k : κ} (h : f k = none) : upd f k none = f := by
  funext j
  by_cases hj : j = k
  · subst hj; simp [h]
  · exact upd_ne _ _ hj

/-- 'm[k] = v'. -/
theorem MapFn.update (h : MapFn w b ke f) (K : KeyOK P kt ke) (ht : P.underlying t = some (.map kt et)) (k : κ) (v : Value) :
    ∃ o, (Instr.mapUpdate t (.map (some b)) (ke k) v).run P w = .ok () (put w b o) ∧ MapFn (put w b o) b ke (upd f k (some v)) := by
  have hlt := h.lt
  obtain ⟨es, clock, hb, he⟩ := h
  rcases he.find K w k with ⟨h1, h2⟩ | ⟨i, e, h1, h2, h3, h4⟩
  · refine ⟨.map (es.push { key := ke k, val := v, born := clock }) (clock + 1), ?_, _, _, put_same hlt _, he.push K h2 v⟩
    simp only [Instr.mapUpdate, Sem.run_bind, run_underlying ht, Result.andThen_ok, MapKept.run_getObj_map hb, K.check, h1, MapKept.run_setObj_map _ hb]
    rfl
  · refine ⟨.map (es.modify i fun e => { e with key := ke k, val := v }) clock, ?_, _, _, put_same hlt _, he.modify K h2 h3 v _ rfl⟩
    simp only [Instr.mapUpdate, Sem.run_bind, run_underlying ht, Result.andThen_ok, MapKept.run_getObj_map hb, K.check, h1, h2, Option.map_some, Option.getD_some, Instr.keyThatStays, h3, K.bits, if_true, Sem.run_pure, MapKept.run_setObj_map _ hb]
    rfl

/-- 'delete(m, k)'. -/
theorem MapFn.delete (h : MapFn w b ke f) (K : KeyOK P kt ke) (ht : P.underlying t = some (.map kt et)) (k : κ) (kt' ty : TypeId) :
    ∃ o, (Builtin.delete_ #[t, kt'] ty #[.map (some b), ke k]).run P w = .ok (.tuple #[]) (put w b o) ∧ MapFn (put w b o) b ke (upd f k none) := by
  have hlt := h.lt
  obtain ⟨es, clock, hb, he⟩ := h
  rcases he.find K w k with ⟨h1, h2⟩ | ⟨i, e, h1, h2, h3, h4⟩
  · refine ⟨.map es clock, ?_, _, _, put_same hlt _, by rw [upd_none_self h2]; exact he⟩
    simp [Builtin.delete_, run_underlying ht, MapKept.run_getObj_map hb, K.check, h1, MapKept.run_setObj_map _ hb, put]
  · refine ⟨.map (es.eraseIdxIfInBounds i) clock, ?_, _, _, put_same hlt _, (he.erase K h2 h3).1⟩
    simp [Builtin.delete_, run_underlying ht, MapKept.run_getObj_map hb, K.check, h1, MapKept.run_setObj_map _ hb, put]

/-- 'clear(m)'. -/
theorem MapFn.clear (h : MapFn w b ke f) (ht : P.underlying t = some (.map kt et)) (ty : TypeId) :
    ∃ o, (Builtin.clear_ #[t] ty #[.map (some b)]).run P w = .ok (.tuple #[]) (put w b o) ∧ MapFn (put w b o) b ke (fun _ => none) := by
  have hlt := h.lt
  obtain ⟨es, clock, hb, he⟩ := h
  refine ⟨.map #[] clock, ?_, _, _, put_same hlt _, Ents.empty _⟩
  simp [Builtin.clear_, run_underlying ht, MapKept.run_getObj_map hb, MapKept.run_setObj_map _ hb, put]

/-- 'm[k] += d' where the key and its entry's stamp are asked apart: the entry is made, then written. -/
theorem MapFn.entry (h : MapFn w b ke f) (K : KeyOK P kt ke) (ht : P.underlying t = some (.map kt et)) {z : Value} (hz : ∀ w, (zeroValue et).run P w = .ok z w) (k : κ) :
    ∃ o stamp, (Instr.mapEntry t (.map (some b)) (ke k)).run P w = .ok (.tuple #[(f k).getD z, .int .i64 stamp]) (put w b o) ∧
      ∀ v, ∃ o', (Instr.entryStore t (.map (some b)) (.int .i64 stamp) v).run P (put w b o) = .ok () (put (put w b o) b o') ∧ MapFn (put (put w b o) b o') b ke (upd f k (some v)) := by
  have hlt := h.lt
  obtain ⟨es, clock, hb, he⟩ := h
  have fin : ∀ (es' : Array MapEntry) (clock' : Nat) (i : Nat) (e : MapEntry) (g : κ → Option Value), Ents ke g es' clock' → es'[i]? = some e → e.key = ke k → (∀ v, upd g k (some v) = upd f k (some v)) →
      ∀ v, ∃ o', (Instr.entryStore t (.map (some b)) (.int .i64 (e.born : Int)) v).run P (put w b (.map es' clock')) = .ok () (put (put w b (.map es' clock')) b o') ∧ MapFn (put (put w b (.map es' clock')) b o') b ke (upd f k (some v)) := by
    intro es' clock' i e g hE hi hk hg v
    have hb' : (put w b (.map es' clock')).heap[b]? = some (.map es' clock') := put_same hlt _
    have hfi : es'.findIdx? (fun x => (x.born : Int) == (e.born : Int)) = some i := by
      rw [Array.findIdx?_eq_some_iff_getElem]
      obtain ⟨hi1, hi2⟩ := Array.getElem?_eq_some_iff.1 hi
      refine ⟨hi1, by simp [hi2], fun j hj => ?_⟩
      have hj1 : j < es'.size := Nat.lt_trans hj hi1
      simp only [Bool.not_eq_true, beq_eq_false_iff_ne, ne_eq]
      intro hbe
      have h1 : (es'.toList.map (·.born))[j]'(by simpa using hj1) = (es'.toList.map (·.born))[i]'(by simpa using hi1) := by simp [hi2]; omega
      exact absurd h1 (List.pairwise_iff_getElem.1 hE.borns j i _ _ hj)
    refine ⟨.map (es'.modify i fun e => { e with val := v }) clock', ?_, _, _, put_same (by simpa using hlt) _, ?_⟩
    · simp only [Instr.entryStore, Sem.run_bind, Result.andThen_ok, MapKept.run_getObj_map hb', asInt, asIntOf, Sem.run_pure, hfi, MapKept.run_setObj_map _ hb']
      rfl
    · rw [← hg v]
      exact hE.modify (P := P) (kt := kt) K hi hk v _ (by rw [← hk])
  rcases he.find K w k with ⟨h1, h2⟩ | ⟨i, e, h1, h2, h3, h4⟩
  · refine ⟨.map (es.push { key := ke k, val := z, born := clock }) (clock + 1), clock, ?_, ?_⟩
    · simp only [Instr.mapEntry, Sem.run_bind, run_underlying ht, Result.andThen_ok, MapKept.run_getObj_map hb, K.check, h1, hz, MapKept.run_setObj_map _ hb, h2, Option.getD_none]
      rfl
    · refine fin _ _ es.size { key := ke k, val := z, born := clock } (upd f k (some z)) (he.push K h2 z) (by simp) rfl (fun v => ?_)
      funext j
      by_cases hj : j = k
      · subst hj; simp
      · rw [upd_ne _ _ hj, upd_ne _ _ hj, upd_ne _ _ hj]
  · refine ⟨.map (es.modify i fun e => { e with key := ke k }) clock, e.born, ?_, ?_⟩
    · simp only [Instr.mapEntry, Sem.run_bind, run_underlying ht, Result.andThen_ok, MapKept.run_getObj_map hb, K.check, h1, h2, Option.map_some, Option.getD_some, Instr.keyThatStays, h3, K.bits, if_true, Sem.run_pure, MapKept.run_setObj_map _ hb, h4]
      rfl
    · refine fin _ _ i { e with key := ke k } (upd f k (some e.val)) (he.modify K h2 h3 e.val _ rfl) (by rw [get_modify]; simp [h2]) rfl (fun v => ?_)
      funext j
      by_cases hj : j = k
      · subst hj; simp
      · rw [upd_ne _ _ hj, upd_ne _ _ hj, upd_ne _ _ hj]
end

end Go.Tag
