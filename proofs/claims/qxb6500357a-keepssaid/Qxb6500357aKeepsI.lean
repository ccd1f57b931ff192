import Derived.Test.Qxb6500357aTwin
import Derived.Test.Qxb6500357aKept
import Derived.Test.Qxb6500357aScript
import Derived.Test.Qxb6500357aExamples
namespace Go.Proofs.Qxb6500357a
open Go.RowKit Go.Tag
set_option linter.unusedVariables false
set_option linter.unusedSimpArgs false
set_option maxRecDepth 100000

theorem doA_n (s : St) (o : Op) : 0 ≤ (doA s o).n := by
  unfold doA
  repeat' split
  all_goals (try simp)
/-- The tower (its face y over the index x) holds s; the twin's index x2 holds s2; the blocks X lie apart from both. -/
structure KIat (w0 w : World) (X F F2 : Nat → Prop) (y x x2 : Nat) (s s2 : St) : Prop where
  q : QAt w F y x s
  t : Both w F2 x2 s2
  f : ∀ k, F k → k < w.heap.size ∧ w0.heap.size ≤ k ∧ ¬ F2 k
  f2 : ∀ k, F2 k → k < w.heap.size ∧ w0.heap.size ≤ k
  x : ∀ k, X k → ¬ F k ∧ ¬ F2 k ∧ k < w.heap.size
  xy : X y
  fr : Fr No w0 w
def KI (w0 w : World) (X : Nat → Prop) (y x x2 : Nat) (s s2 : St) : Prop := ∃ F F2, KIat w0 w X F F2 y x x2 s s2
section
variable {w0 w w' : World} {X : Nat → Prop} {y x x2 : Nat} {s s2 : St}
theorem KI.pure (h : KI w0 w X y x x2 s s2) (f : Fr No w w') : KI w0 w' X y x x2 s s2 := by
  obtain ⟨F, F2, h⟩ := h
  have hs := f.size
  exact ⟨F, F2, ⟨f.heap h.q.1 (fun h => h), h.q.2.frNo f⟩, h.t.frNo f, fun k hk => ⟨by have := (h.f k hk).1; omega, (h.f k hk).2⟩, fun k hk => ⟨by have := (h.f2 k hk).1; omega, (h.f2 k hk).2⟩, fun k hk => ⟨(h.x k hk).1, (h.x k hk).2.1, by have := (h.x k hk).2.2; omega⟩, h.xy, h.fr.trans f⟩
theorem KI.alloc (h : KI w0 w X y x x2 s s2) (o : Obj) : KI w0 (w.alloc o) (fun k => X k ∨ k = w.heap.size) y x x2 s s2 := by
  obtain ⟨F, F2, h⟩ := h
  have f : Fr No w (w.alloc o) := (Fr.refl No w).alloc o
  refine ⟨F, F2, ⟨f.heap h.q.1 (fun h => h), h.q.2.frNo f⟩, h.t.frNo f, fun k hk => ⟨by have := (h.f k hk).1; simp; omega, (h.f k hk).2⟩, fun k hk => ⟨by have := (h.f2 k hk).1; simp; omega, (h.f2 k hk).2⟩, fun k hk => ?_, .inl h.xy, h.fr.trans f⟩
  rcases hk with hk | rfl
  · exact ⟨(h.x k hk).1, (h.x k hk).2.1, by have := (h.x k hk).2.2; simp; omega⟩
  · exact ⟨fun e => by have := (h.f _ e).1; omega, fun e => by have := (h.f2 _ e).1; omega, by simp⟩
theorem KI.weak (h : KI w0 w X y x x2 s s2) {X' : Nat → Prop} (hX : ∀ k, X' k → X k) (hy : X' y) : KI w0 w X' y x x2 s s2 := by
  obtain ⟨F, F2, h⟩ := h
  exact ⟨F, F2, h.q, h.t, h.f, h.f2, fun k hk => h.x k (hX k hk), hy, h.fr⟩
/-- What a changing call leaves. -/
def KPost (w0 w : World) (X : Nat → Prop) (y x x2 : Nat) (v : Value) (s' s2' : St) (e : Ending) (w' : World) : Prop :=
  e = .returned v ∧ KI w0 w' X y x x2 s' s2' ∧ (∀ k, X k → w'.heap[k]? = w.heap[k]?) ∧ Fr No w0 w'
theorem KI.do (h : KI w0 w X y x x2 s s2) {B : Int} (hf : Fine s B) (hB : B < 1000000000000000000) (o : Op) :
    Calls Try.prog 11 #[.pointer (some ⟨y, 0, none⟩), o.v] w (KPost w0 w X y x x2 (doA s o).v (doS s o) s2) := by
  obtain ⟨F, F2, h⟩ := h
  refine (do_any y x F s B w o h.q hf hB).mono ?_
  rintro e w' ⟨rfl, hb, hfr⟩
  have hs := hfr.size
  have hfr0 : Fr No w0 w' := h.fr.trans' hfr (fun k hk e => by have := (h.f k e).2.1; omega)
  refine ⟨rfl, ⟨_, F2, ⟨hfr.heap h.q.1 (h.x y h.xy).1, both_bound hb⟩, h.t.fr hfr (fun k hk e => (h.f k e).2.2 hk), ?_, fun k hk => ⟨by have := (h.f2 k hk).1; omega, (h.f2 k hk).2⟩, ?_, h.xy, hfr0⟩, fun k hk => hfr.block k (h.x k hk).2.2 (h.x k hk).1, hfr0⟩
  · rintro k ⟨hk | hk, hlt⟩
    · exact ⟨hlt, (h.f k hk).2⟩
    · exact ⟨hlt, by have := hk.1; have := h.fr.size; omega, fun e => by have := (h.f2 k e).1; have := hk.1; omega⟩
  · intro k hk
    refine ⟨?_, (h.x k hk).2.1, by have := (h.x k hk).2.2; omega⟩
    rintro ⟨e | e, _⟩
    · exact (h.x k hk).1 e
    · have := e.1; have := (h.x k hk).2.2; omega
theorem KI.twin (h : KI w0 w X y x x2 s s2) {B : Int} (hf : Fine s2 B) (hB : B < 1000000000000000000) (o : Op) (hk : o.k = 1 ∨ o.k = 2 ∨ o.k = 3 ∨ o.k = 10) :
    Calls Try.prog 24 #[belV x2, o.v] w (KPost w0 w X y x x2 (doA s2 o).v s (doS s2 o)) := by
  obtain ⟨F, F2, h⟩ := h
  refine (twin_any x2 F2 s2 B w o hk h.t hf hB).mono ?_
  rintro e w' ⟨rfl, hb, hfr⟩
  have hs := hfr.size
  have hfr0 : Fr No w0 w' := h.fr.trans' hfr (fun k hk e => by have := (h.f2 k e).2; omega)
  refine ⟨rfl, ⟨F, _, ⟨hfr.heap h.q.1 (h.x y h.xy).2.1, h.q.2.fr hfr (fun k hk e => (h.f k hk).2.2 e)⟩, both_bound hb, ?_, ?_, ?_, h.xy, hfr0⟩, fun k hk => hfr.block k (h.x k hk).2.2 (h.x k hk).2.1, hfr0⟩
  · intro k hk
    refine ⟨by have := (h.f k hk).1; omega, (h.f k hk).2.1, ?_⟩
    rintro ⟨e | e, _⟩
    · exact (h.f k hk).2.2 e
    · have := e.1; have := (h.f k hk).1; omega
  · rintro k ⟨hk | hk, hlt⟩
    · exact ⟨hlt, (h.f2 k hk).2⟩
    · exact ⟨hlt, by have := hk.1; have := h.fr.size; omega⟩
  · intro k hk
    refine ⟨(h.x k hk).1, ?_, by have := (h.x k hk).2.2; omega⟩
    rintro ⟨e | e, _⟩
    · exact (h.x k hk).2.1 e
    · have := e.1; have := (h.x k hk).2.2; omega
theorem KI.len (h : KI w0 w X y x x2 s s2) {B : Int} (hf : Fine s B) : Calls Try.prog 15 #[.pointer (some ⟨y, 0, none⟩)] w fun e w' => e = .returned (.int .i64 (s.ids.length : Int)) ∧ w' = w := by
  obtain ⟨F, F2, h⟩ := h
  exact qLen_any y x F s B w h.q hf
theorem KI.low1 (h : KI w0 w X y x x2 s s2) {B : Int} (hf : Fine s B) (hB : B < 1000000000000000000) : Calls Try.prog 25 #[belV x] w (StrPost w (ixShow s)) := by
  obtain ⟨F, F2, h⟩ := h
  exact low_any x F s B w h.q.2 hf hB
theorem KI.low2 (h : KI w0 w X y x x2 s s2) {B : Int} (hf : Fine s2 B) (hB : B < 1000000000000000000) : Calls Try.prog 25 #[belV x2] w (StrPost w (ixShow s2)) := by
  obtain ⟨F, F2, h⟩ := h
  exact low_any x2 F2 s2 B w h.t hf hB
theorem KI.kept {s0 : St} {o : Op} (h : KI w0 w X y x x2 (doS s0 o) s2) {B : Int} (hf0 : Fine s0 B) (hf : Fine (doS s0 o) (B + 1)) : Calls Try.prog 26 #[belV x, .pointer (some ⟨y, 0, none⟩), o.v, (doA s0 o).v, .int .i64 (s0.ids.length : Int)] w fun e w' => e = .returned (.bool true) ∧ Fr No w w' := by
  obtain ⟨F, F2, h⟩ := h
  exact kept_any y x F s0 B o w h.q hf0 hf
theorem KI.fr0 (h : KI w0 w X y x x2 s s2) : Fr No w0 w := by obtain ⟨F, F2, h⟩ := h; exact h.fr
theorem KI.lt (h : KI w0 w X y x x2 s s2) {k : Nat} (hk : X k) : k < w.heap.size := by obtain ⟨F, F2, h⟩ := h; exact (h.x k hk).2.2
end
theorem ki_new {w w1 w2 : World} {z y x b : Nat} {F : Nat → Prop} (hT : TowerAt w1 F z y x b St.new) (hF : ∀ k, F k → Since w w1 k) (f1 : Fr No w w1) {x2 : Nat} {F2 : Nat → Prop} {wb : World} (fb : Fr No w1 wb) (hwb : w1.heap.size < wb.heap.size)
    (hG : Both w2 F2 x2 St.new) (hg : ∀ k, F2 k → wb.heap.size ≤ k ∧ k < w2.heap.size) (f2 : Fr No wb w2) : KI w w2 (fun k => k = y ∨ k = w1.heap.size) y x x2 St.new St.new := by
  have h1 := f1.size
  have h2 := f2.size
  have h3 := fb.size
  have yl := lt_of_heap hT.q.1
  have f12 := fb.trans f2
  refine ⟨F, F2, ⟨f12.heap hT.q.1 (fun h => h), hT.q.2.frNo f12⟩, hG, fun k hk => ⟨by have := (hF k hk).2; omega, (hF k hk).1, fun e => by have := (hF k hk).2; have := (hg k e).1; omega⟩, fun k hk => ⟨(hg k hk).2, by have := (hg k hk).1; omega⟩, ?_, .inl rfl, f1.trans f12⟩
  rintro k (rfl | rfl)
  · exact ⟨hT.ne.2, fun e => by have := (hg _ e).1; omega, by omega⟩
  · exact ⟨fun e => by have := (hF _ e).2; omega, fun e => by have := (hg _ e).1; omega, by omega⟩
end Go.Proofs.Qxb6500357a
