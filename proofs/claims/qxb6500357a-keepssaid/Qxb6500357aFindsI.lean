import Derived.Test.Qxb6500357aTurn2
import Derived.Test.Qxb6500357aMeets
import Derived.Test.Qxb6500357aTops
import Derived.Test.Qxb6500357aWhole
import Derived.Test.Qxb6500357aRunsW
import Derived.Test.Qxb6500357aScript
namespace Go.Proofs.Qxb6500357a
open Go.RowKit Go.Tag
set_option linter.unusedVariables false
set_option linter.unusedSimpArgs false
set_option maxRecDepth 100000

/-! ### The ghost behind a step -/
theorem st_ext {s t : St} (h1 : ∀ i, s.docs i = t.docs i) (h2 : s.revs = t.revs) : s = t := by
  obtain ⟨d, r⟩ := s
  obtain ⟨d', r'⟩ := t
  simp only at h1 h2
  rw [show d = d' from funext h1, h2]
theorem docs_far {s : St} {B : Int} (hf : Fine s B) {i : Int} (h : ¬ i < 10) : s.docs i = none := hf.docs_none (by omega)
theorem turn_any (gb t0 g0 x0 p0 : Nat) (s : St) (B : Int) (w : World) (o : Op) (hk : o.k = 1 ∨ o.k = 2 ∨ o.k = 3 ∨ o.k = 10) (he : (doA s o).e = 0) (h : GhostAt w gb t0 g0 x0 p0 s) (hf : Fine s B) (hB : B < 1000000000000000000) :
    Calls Try.prog 14 #[.pointer (some ⟨gb, 0, none⟩), o.v] w (TurnsPost w gb t0 g0 x0 p0 (doS s o)) := by
  obtain ⟨k, A, Bb, C, S, T⟩ := o
  simp only at hk
  unfold Op.v
  simp only []
  rcases hk with rfl | rfl | rfl | rfl
  · unfold doA at he
    simp only [if_true] at he
    have hA : 1 ≤ A ∧ A ≤ 9 := by
      unfold St.putErr at he
      by_cases h1 : 12 < S.length
      · rw [if_pos h1] at he; cases he
      rw [if_neg h1] at he
      by_cases h2 : ¬ (1 ≤ A ∧ A ≤ 9)
      · rw [if_pos h2] at he; cases he
      omega
    obtain ⟨a, rfl⟩ : ∃ a : Nat, A = a := ⟨A.toNat, by omega⟩
    have e : doS s ⟨1, a, Bb, C, S, T⟩ = s.put (a : Int) ⟨Bb, S⟩ := by
      unfold doS; simp only [if_true]; unfold St.putR; rw [if_pos he]
    rw [e]
    exact turnPut_any gb t0 g0 x0 p0 s B w Bb C S T a (by omega) h hf hB
  · unfold doA at he
    rw [if_neg (by simp), if_pos rfl] at he
    simp only at he
    have hd : ∃ d, s.docs A = some d := by
      unfold St.getErr at he
      split at he
      · cases hd : s.docs A with
        | none => rw [hd] at he; simp at he
        | some d => exact ⟨d, rfl⟩
      · simp at he
    obtain ⟨d, hd⟩ := hd
    have e : doS s ⟨2, A, Bb, C, S, T⟩ = turnTo s (fun i => decide (i = A)) 10 := by
      unfold doS; rw [if_neg (by simp), if_pos rfl]
      simp only
      rw [delR_some hd]
      refine st_ext (fun i => ?_) rfl
      rw [turnTo_docs]
      show (if i = A then none else s.docs i) = _
      by_cases hi : i = A
      · subst hi
        by_cases h10 : i < 10
        · simp [h10]
        · have := docs_far hf h10; rw [this] at hd; cases hd
      · simp [hi]
    rw [e]
    exact turnDel_any gb t0 g0 x0 p0 s B w A Bb C S T h hf
  · have e : doS s ⟨3, A, Bb, C, S, T⟩ = turnTo s (fun i => decide (s.groupOf i = A)) 10 := by
      unfold doS; rw [if_neg (by simp), if_neg (by simp), if_pos rfl]
      refine st_ext (fun i => ?_) rfl
      rw [turnTo_docs]
      show (if s.groupOf i = A then none else s.docs i) = _
      by_cases h10 : i < 10
      · simp [h10]
      · rw [docs_far hf h10]; split <;> split <;> rfl
    rw [e]
    exact turnDrop_any gb t0 g0 x0 p0 s B w A Bb C S T h hf
  · have e : doS s ⟨10, A, Bb, C, S, T⟩ = turnTo s (fun _ => true) 10 := by
      unfold doS; rw [if_neg (by simp), if_neg (by simp), if_neg (by simp), if_pos rfl]
      refine st_ext (fun i => ?_) rfl
      rw [turnTo_docs]
      show none = _
      by_cases h10 : i < 10
      · simp [h10]
      · rw [docs_far hf h10]; split <;> rfl
    rw [e]
    exact turnReset_any gb t0 g0 x0 p0 s B w A Bb C S T h hf
theorem doS_keep (s : St) (o : Op) (h : ¬ (o.k = 1 ∨ o.k = 2 ∨ o.k = 3 ∨ o.k = 10)) : doS s o = s := by
  unfold doS
  rw [if_neg (fun e => h (.inl e)), if_neg (fun e => h (.inr (.inl e))), if_neg (fun e => h (.inr (.inr (.inl e)))), if_neg (fun e => h (.inr (.inr (.inr e))))]
theorem doS_bad {s : St} {B : Int} (hf : Fine s B) (o : Op) (h : (doA s o).e ≠ 0) : doS s o = s := by
  unfold doA at h
  unfold doS
  split
  · next e =>
    rw [if_pos e] at h
    simp only at h
    unfold St.putR; rw [if_neg h]
  · next e1 =>
    rw [if_neg e1] at h
    split
    · next e =>
      rw [if_pos e] at h
      simp only at h
      cases hd : s.docs o.a with
      | none => exact delR_none hd
      | some d =>
        exact absurd (getErr_some (hf.dom _ d hd).1 hd) h
    · next e2 =>
      rw [if_neg e2] at h
      split
      · next e => rw [if_pos e] at h; exact absurd rfl h
      · next e3 =>
        rw [if_neg e3] at h
        split
        · next e =>
          rw [e] at h
          simp at h
        · rfl

/-! ### The law's state -/
/-- The tower (its face y, its index x) holds s; the ghost tells sg; the blocks X lie apart from both. -/
structure FIat (w0 w : World) (X F : Nat → Prop) (z y x b gb t0 g0 x0 p0 : Nat) (s sg : St) : Prop where
  q : QAt w F y x s
  root : w.heap[z]? = some (.cells #[.pointer (some ⟨b, 0, none⟩), .pointer (some ⟨x, 0, none⟩), .pointer (some ⟨y, 0, none⟩)] 31)
  g : GhostAt w gb t0 g0 x0 p0 sg
  f : ∀ k, F k → k < w.heap.size ∧ w0.heap.size ≤ k ∧ ¬ gOne gb t0 g0 x0 p0 k
  go : ∀ k, gOne gb t0 g0 x0 p0 k → w0.heap.size ≤ k
  x : ∀ k, X k → ¬ F k ∧ ¬ gOne gb t0 g0 x0 p0 k ∧ k < w.heap.size
  xy : X y ∧ X z
  fr : Fr No w0 w
def FI (w0 w : World) (X : Nat → Prop) (z y x b gb t0 g0 x0 p0 : Nat) (s sg : St) : Prop := ∃ F, FIat w0 w X F z y x b gb t0 g0 x0 p0 s sg

section
variable {w0 w w' : World} {X : Nat → Prop} {z y x b gb t0 g0 x0 p0 : Nat} {s sg : St}
theorem FI.pure (h : FI w0 w X z y x b gb t0 g0 x0 p0 s sg) (f : Fr No w w') : FI w0 w' X z y x b gb t0 g0 x0 p0 s sg := by
  obtain ⟨F, h⟩ := h
  have hs := f.size
  exact ⟨F, ⟨f.heap h.q.1 (fun h => h), h.q.2.frNo f⟩, f.heap h.root (fun h => h), GhostR.fr h.g f (fun _ _ h => h), fun k hk => ⟨by have := (h.f k hk).1; omega, (h.f k hk).2⟩, h.go, fun k hk => ⟨(h.x k hk).1, (h.x k hk).2.1, by have := (h.x k hk).2.2; omega⟩, h.xy, h.fr.trans f⟩
theorem FI.alloc (h : FI w0 w X z y x b gb t0 g0 x0 p0 s sg) (o : Obj) : FI w0 (w.alloc o) (fun k => X k ∨ k = w.heap.size) z y x b gb t0 g0 x0 p0 s sg := by
  obtain ⟨F, h⟩ := h
  have f : Fr No w (w.alloc o) := (Fr.refl No w).alloc o
  have hg := GhostR.lt h.g
  refine ⟨F, ⟨f.heap h.q.1 (fun h => h), h.q.2.frNo f⟩, f.heap h.root (fun h => h), GhostR.fr h.g f (fun _ _ h => h), fun k hk => ⟨by have := (h.f k hk).1; simp; omega, (h.f k hk).2⟩, h.go, fun k hk => ?_, ⟨.inl h.xy.1, .inl h.xy.2⟩, h.fr.trans f⟩
  rcases hk with hk | rfl
  · exact ⟨(h.x k hk).1, (h.x k hk).2.1, by have := (h.x k hk).2.2; simp; omega⟩
  · exact ⟨fun e => by have := (h.f _ e).1; omega, fun e => by have := hg _ e; omega, by simp⟩
theorem FI.own (h : FI w0 w X z y x b gb t0 g0 x0 p0 s sg) {ab : Nat} (hx : X ab) (hy : ab ≠ y) (hz : ab ≠ z) (h0 : w0.heap.size ≤ ab) (f : Fr (fun k => k = ab) w w') : FI w0 w' X z y x b gb t0 g0 x0 p0 s sg := by
  obtain ⟨F, h⟩ := h
  have hs := f.size
  obtain ⟨a1, a2, a3⟩ := h.x ab hx
  refine ⟨F, ⟨f.heap h.q.1 (Ne.symm hy), h.q.2.fr f (fun k hk e => by subst e; exact a1 hk)⟩, f.heap h.root (Ne.symm hz), GhostR.fr h.g f (fun k hk e => by subst e; exact a2 hk), fun k hk => ⟨by have := (h.f k hk).1; omega, (h.f k hk).2⟩, h.go, fun k hk => ⟨(h.x k hk).1, (h.x k hk).2.1, by have := (h.x k hk).2.2; omega⟩, h.xy, h.fr.trans' f (fun k hk e => by omega)⟩
theorem FI.drew (h : FI w0 w X z y x b gb t0 g0 x0 p0 s sg) : FI w0 w.drew X z y x b gb t0 g0 x0 p0 s sg := h.pure (Fr.refl No w).drew
theorem FI.drewN (h : FI w0 w X z y x b gb t0 g0 x0 p0 s sg) (n : Nat) : FI w0 (w.drewN n) X z y x b gb t0 g0 x0 p0 s sg := h.pure ((Fr.refl No w).drewN n)
theorem FI.weak (h : FI w0 w X z y x b gb t0 g0 x0 p0 s sg) {X' : Nat → Prop} (hX : ∀ k, X' k → X k) (hy : X' y) (hz : X' z) : FI w0 w X' z y x b gb t0 g0 x0 p0 s sg := by
  obtain ⟨F, h⟩ := h
  exact ⟨F, h.q, h.root, h.g, h.f, h.go, fun k hk => h.x k (hX k hk), ⟨hy, hz⟩, h.fr⟩

/-- What a changing call leaves of the law's state. -/
def StepPost (w0 w : World) (X : Nat → Prop) (z y x b gb t0 g0 x0 p0 : Nat) (v : Value) (s' sg' : St) (e : Ending) (w' : World) : Prop :=
  e = .returned v ∧ FI w0 w' X z y x b gb t0 g0 x0 p0 s' sg' ∧ (∀ k, X k → w'.heap[k]? = w.heap[k]?) ∧ Fr No w0 w'

theorem FI.do (h : FI w0 w X z y x b gb t0 g0 x0 p0 s sg) {B : Int} (hf : Fine s B) (hB : B < 1000000000000000000) (o : Op) :
    Calls Try.prog 11 #[.pointer (some ⟨y, 0, none⟩), o.v] w (StepPost w0 w X z y x b gb t0 g0 x0 p0 (doA s o).v (doS s o) sg) := by
  obtain ⟨F, h⟩ := h
  refine (do_any y x F s B w o h.q hf hB).mono ?_
  rintro e w' ⟨rfl, hb, hfr⟩
  have hs := hfr.size
  have hg := GhostR.lt h.g
  have hfr0 : Fr No w0 w' := h.fr.trans' hfr (fun k hk e => by have := (h.f k e).2.1; omega)
  refine ⟨rfl, ⟨_, ⟨hfr.heap h.q.1 (h.x y h.xy.1).1, both_bound hb⟩, hfr.heap h.root (h.x z h.xy.2).1, GhostR.fr h.g hfr (fun k hk e => (h.f k e).2.2 hk), ?_, h.go, ?_, h.xy, hfr0⟩, fun k hk => hfr.block k (h.x k hk).2.2 (h.x k hk).1, hfr0⟩
  · rintro k ⟨hk | hk, hlt⟩
    · exact ⟨hlt, (h.f k hk).2⟩
    · exact ⟨hlt, by have := hk.1; have := h.fr.size; omega, fun e => by have := hg k e; have := hk.1; omega⟩
  · intro k hk
    refine ⟨?_, (h.x k hk).2.1, by have := (h.x k hk).2.2; omega⟩
    rintro ⟨e | e, _⟩
    · exact (h.x k hk).1 e
    · have := e.1; have := (h.x k hk).2.2; omega
theorem FI.turn (h : FI w0 w X z y x b gb t0 g0 x0 p0 s sg) {B : Int} (hf : Fine sg B) (hB : B < 1000000000000000000) (o : Op) (hk : o.k = 1 ∨ o.k = 2 ∨ o.k = 3 ∨ o.k = 10) (he : (doA sg o).e = 0) :
    Calls Try.prog 14 #[.pointer (some ⟨gb, 0, none⟩), o.v] w (StepPost w0 w X z y x b gb t0 g0 x0 p0 (.tuple #[]) s (doS sg o)) := by
  obtain ⟨F, h⟩ := h
  refine (turn_any gb t0 g0 x0 p0 sg B w o hk he h.g hf hB).mono ?_
  rintro e w' ⟨rfl, hg', hfr⟩
  have hs := hfr.size
  have hfr0 : Fr No w0 w' := h.fr.trans' hfr (fun k hk e => by have := h.go k e; omega)
  refine ⟨rfl, ⟨F, ⟨hfr.heap h.q.1 (h.x y h.xy.1).2.1, h.q.2.fr hfr (fun k hk => (h.f k hk).2.2)⟩, hfr.heap h.root (h.x z h.xy.2).2.1, hg', fun k hk => ⟨by have := (h.f k hk).1; omega, (h.f k hk).2⟩, h.go, fun k hk => ⟨(h.x k hk).1, (h.x k hk).2.1, by have := (h.x k hk).2.2; omega⟩, h.xy, hfr0⟩, fun k hk => hfr.block k (h.x k hk).2.2 (h.x k hk).2.1, hfr0⟩
theorem FI.owes (h : FI w0 w X z y x b gb t0 g0 x0 p0 s sg) {B : Int} (hf : Fine sg B) (o : Op) (hk : o.k = 1 ∨ o.k = 2 ∨ o.k = 3 ∨ o.k = 10) :
    Calls Try.prog 13 #[.pointer (some ⟨gb, 0, none⟩), o.v] w fun e w' => e = .returned (doA sg o).v ∧ Fr No w w' := by
  obtain ⟨F, h⟩ := h
  exact owes_any gb t0 g0 x0 p0 sg B w o hk h.g hf
theorem FI.len (h : FI w0 w X z y x b gb t0 g0 x0 p0 s sg) {B : Int} (hf : Fine s B) : Calls Try.prog 15 #[.pointer (some ⟨y, 0, none⟩)] w fun e w' => e = .returned (.int .i64 (s.ids.length : Int)) ∧ w' = w := by
  obtain ⟨F, h⟩ := h
  exact qLen_any y x F s B w h.q hf
theorem FI.runs (h : FI w0 w X z y x b gb t0 g0 x0 p0 s sg) {B : Int} (hf : Fine sg B) : Calls Try.prog 16 #[.pointer (some ⟨gb, 0, none⟩)] w (WordsPost w sg.words) := by
  obtain ⟨F, h⟩ := h
  exact runs_any gb t0 g0 x0 p0 sg B w h.g hf
theorem FI.show (h : FI w0 w X z y x b gb t0 g0 x0 p0 s sg) {B : Int} (hf : Fine s B) (hB : B < 1000000000000000000) : Calls Try.prog 9 #[.pointer (some ⟨y, 0, none⟩)] w (StrPost w (ixShow s)) := by
  obtain ⟨F, h⟩ := h
  exact qShow_any y x F s B w h.q hf hB
theorem FI.whole (h : FI w0 w X z y x b gb t0 g0 x0 p0 s sg) {B : Int} (hf : Fine sg B) (hB : B < 1000000000000000000) {v : Value} (hv : SlW w v sg.words) : Calls Try.prog 17 #[.pointer (some ⟨gb, 0, none⟩), v] w (StrPost w (ixShow sg)) := by
  obtain ⟨F, h⟩ := h
  exact whole_any gb t0 g0 x0 p0 sg B v w h.g hv hf hB
theorem FI.top (h : FI w0 w X z y x b gb t0 g0 x0 p0 s sg) {B : Int} (hf : Fine s B) (k : Int) : Calls Try.prog 18 #[.pointer (some ⟨y, 0, none⟩), .int .i64 k] w (StrsErr w (topL s k) (topErr k)) := by
  obtain ⟨F, h⟩ := h
  exact top_any y x F s B k w h.q hf
theorem FI.tops (h : FI w0 w X z y x b gb t0 g0 x0 p0 s sg) {B : Int} (hf : Fine sg B) {v : Value} (hv : SlW w v sg.words) : Calls Try.prog 20 #[.pointer (some ⟨gb, 0, none⟩), v] w (StrPost w (strs (topL sg 4))) := by
  obtain ⟨F, h⟩ := h
  exact tops_any gb t0 g0 x0 p0 sg B v w h.g hv hf
theorem FI.meets (h : FI w0 w X z y x b gb t0 g0 x0 p0 s s) {B : Int} (hf : Fine s B) (u : Word) (hu : u.length ≤ 12) : Calls Try.prog 21 #[.pointer (some ⟨y, 0, none⟩), .pointer (some ⟨gb, 0, none⟩), .string (str u)] w fun e w' => e = .returned (.bool true) ∧ Fr No w w' := by
  obtain ⟨F, h⟩ := h
  exact meets_any y x F gb t0 g0 x0 p0 s B u w h.q h.g hf hu
theorem FI.meetsAll (h : FI w0 w X z y x b gb t0 g0 x0 p0 s s) {B : Int} (hf : Fine s B) {v : Value} (hv : SlW w v s.words) : Calls Try.prog 22 #[.pointer (some ⟨y, 0, none⟩), .pointer (some ⟨gb, 0, none⟩), v] w fun e w' => e = .returned (.bool true) ∧ Fr No w w' := by
  obtain ⟨F, h⟩ := h
  exact meetsAll_any y x F gb t0 g0 x0 p0 s B v w h.q h.g hv hf
theorem FI.cells (h : FI w0 w X z y x b gb t0 g0 x0 p0 s sg) : w.cell? ⟨z, 2, none⟩ = some (.pointer (some ⟨y, 0, none⟩)) ∧ w.cell? ⟨gb, 4, none⟩ = some (.int .i64 (sg.ids.length : Int)) ∧ z < w.heap.size ∧ gb < w.heap.size := by
  obtain ⟨F, h⟩ := h
  exact ⟨by rw [cell_of_heap h.root]; rfl, (GhostR.cells h.g).2.2.2.2, lt_of_heap h.root, GhostR.lt h.g gb (.inl rfl)⟩
theorem FI.fr0 (h : FI w0 w X z y x b gb t0 g0 x0 p0 s sg) : Fr No w0 w := by obtain ⟨F, h⟩ := h; exact h.fr
end
end Go.Proofs.Qxb6500357a
