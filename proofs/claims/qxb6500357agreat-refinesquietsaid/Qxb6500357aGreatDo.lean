import Derived.Test.Qxb6500357aGreatFace
namespace Go.Proofs.Qxb6500357aGreat
open Go.RowKit Go.Tag
variable {st0 : Nat}
set_option linter.unusedVariables false
set_option linter.unusedSimpArgs false
set_option maxRecDepth 100000
attribute [local simp] str_size
attribute [local go_sem] str_size

structure Op where
  k : Int
  a : Int
  b : Int
  c : Int
  s : List UInt8
  t : List UInt8
def Op.v (o : Op) : Value := opV o.k o.a o.b o.c o.s o.t
structure Ans where
  e : Int
  n : Int
  s : List UInt8
def Ans.v (a : Ans) : Value := ansV a.e a.n a.s
/-- The step's answer; the documents behind it. -/
def doA (s : St) (o : Op) : Ans :=
  if o.k = 1 then ⟨s.putErr o.a o.b o.s, 0, []⟩ else if o.k = 2 then ⟨s.getErr o.a, 0, []⟩ else if o.k = 3 then ⟨0, s.cnt o.a, []⟩
  else if o.k = 4 then ⟨findErr o.a o.s o.t, (findL s o.a o.s o.t).length, ints (findL s o.a o.s o.t)⟩
  else if o.k = 5 then ⟨groupsErr o.s, (groupsL s o.s).length, counts (groupsL s o.s)⟩
  else if o.k = 6 then ⟨topErr o.a, (topL s o.a).length, strs (topL s o.a)⟩
  else if o.k = 7 then ⟨0, 0, ixShow s⟩ else if o.k = 9 then ⟨0, s.ids.length, []⟩ else if o.k = 10 then ⟨0, s.ids.length, []⟩ else ⟨0, 0, []⟩
def doS (s : St) (o : Op) : St :=
  if o.k = 1 then s.putR o.a o.b o.s else if o.k = 2 then s.delR o.a else if o.k = 3 then s.drop o.a else if o.k = 10 then s.reset else s
/-- What a step leaves. -/
def DoPost (st0 : Nat) (w : World) (F : Nat → Prop) (x : Nat) (a : Ans) (s' : St) (e : Ending) (w' : World) : Prop :=
  e = .returned a.v ∧ Both st0 w' (fun k => F k ∨ Since w w' k) x s' ∧ Fr F w w'
theorem since_mono {w w1 w2 w3 : World} {k : Nat} (h : Since w1 w2 k) (h1 : w.heap.size ≤ w1.heap.size) (h2 : w2.heap.size ≤ w3.heap.size) : Since w w3 k := ⟨Nat.le_trans h1 h.1, Nat.lt_of_lt_of_le h.2 h2⟩

theorem both_bound {w : World} {F : Nat → Prop} {x : Nat} {s : St} (h : Both st0 w F x s) : Both st0 w (fun k => F k ∧ k < w.heap.size) x s := by
  obtain ⟨b, bd, br, bg, p, bi, bb, q, Fs, Fi, h1, h2⟩ := h
  exact ⟨b, bd, br, bg, p, bi, bb, q, Fs, Fi, h1, fun k hk => ⟨h2 k hk, hk.elim (h1.ls k) (h1.li k)⟩⟩
theorem do_end {w w1 wf : World} {F : Nat → Prop} {x : Nat} {s' : St} (h1 : Both st0 w1 (fun k => (F k ∧ k < w.heap.size) ∨ (w.heap.size + 2 ≤ k ∧ k < w1.heap.size)) x s') (f1 : Fr (fun k => F k ∧ k < w.heap.size) w w1) (f2 : Fr (fun k => k = w.heap.size + 1) w1 wf) :
    Both st0 wf (fun k => F k ∨ Since w wf k) x s' ∧ Fr F w wf := by
  have a1 := f1.size
  have a2 := f2.size
  refine ⟨(h1.fr f2 ?_).mono ?_, ?_⟩
  · rintro k (hk | hk) e
    · have := hk.2; omega
    · omega
  · rintro k (hk | hk)
    · exact .inl hk.1
    · exact .inr ⟨by omega, by omega⟩
  · exact (f1.mono (fun k _ h => h.1)).trans' f2 (fun k hk e => by omega)
theorem ask_do {w : World} {F : Nat → Prop} {x : Nat} {s : St} (h : Both st0 w F x s) {f : FuncId} {args : Array Value} {er n : Int} {t : List UInt8} (hc : Calls Tryz.prog f args w (AskPost w er n t)) : Calls Tryz.prog f args w (DoPost st0 w F x ⟨er, n, t⟩ s) :=
  hc.mono fun e w' ⟨h1, h2⟩ => ⟨h1, (h.frNo h2).mono (fun k hk => .inl hk), h2.any⟩

section
variable (y x : Nat) (F : Nat → Prop) (s : St) (B : Int) (w : World) (A Bb C : Int) (S T : List UInt8)
set_option maxHeartbeats 1000000 in
theorem doPut_any (h : QAt st0 w F y x s) (hf : Fine s B) (hB : B < 1000000000000000000) : Calls Tryz.prog 10 #[.pointer (some ⟨y, 0, none⟩), opV 1 A Bb C S T] w (DoPost st0 w F x ⟨s.putErr A Bb S, 0, []⟩ (s.putR A Bb S)) := by
  have HQ : Hid (∀ w', Fr No w w' → Calls Tryz.prog 21 #[.pointer (some ⟨y, 0, none⟩), .int .i64 A, .int .i64 Bb, .string (str S)] w' fun e w'' => e = .returned (.int .i64 (s.putErr A Bb S)) ∧ Both st0 w'' (fun k => (F k ∧ k < w.heap.size) ∨ Since w' w'' k) x (s.putR A Bb S) ∧ Fr (fun k => F k ∧ k < w.heap.size) w' w'') := fun w' f =>
    qPut_any y x _ s B w' A Bb S ⟨f.heap h.1 (fun h => h), (both_bound h.2).frNo f⟩ hf hB
  generalize (s.putErr A Bb S) = er at *
  generalize (s.putR A Bb S) = s' at *
  clear h hf
  unfold opV
  go_enter Tryz.func10, Tryz.ntmps10
  go_wp2_with (go_at_call 21; refine (HQ.out _ (((Fr.refl _ _).alloc _).alloc _)).mono ?_; rintro e w1 ⟨rfl, h1, f1⟩
               have hb1 : w1.heap[w.heap.size + 1]? = some (.cells #[.int .i64 0, .int .i64 0, .int .i64 0, .string (str [])] 40) := f1.heap (by have := heap_alloc_new (w.alloc (.cells #[.int .i64 1, .int .i64 A, .int .i64 Bb, .int .i64 C, .string (str S), .string (str T)] 37)) (.cells #[.int .i64 0, .int .i64 0, .int .i64 0, .string (str [])] 40); simp only [World.size_alloc] at this; exact this) (fun h => by have := h.2; omega)
               have q0 := cell_of_heap hb1 0
               have q1 := cell_of_heap hb1 1
               have q2 := cell_of_heap hb1 2
               have q3 := cell_of_heap hb1 3
               have fz := frozen_of_heap hb1
               have hac := ans_cells hb1
               have HS : Hid (Both st0 w1 (fun k => (F k ∧ k < w.heap.size) ∨ (w.heap.size + 2 ≤ k ∧ k < w1.heap.size)) x s' ∧ Fr (fun k => F k ∧ k < w.heap.size) w w1) := ⟨h1.mono (fun k hk => hk.imp_right (fun e => ⟨by have := e.1; simp only [World.size_alloc] at this; omega, e.2⟩)), (((Fr.refl _ w).alloc _).alloc _).trans f1⟩
               clear h1 f1)
  refine bodyPost_ret (v := ansV er 0 []) (by simp [results, Tryz.results10, go_sem, ansV, hac] <;> rfl) rfl ⟨rfl, do_end HS.out.1 HS.out.2 ?_⟩
  exact ((((Fr.refl (fun k => k = w.heap.size + 1) w1).setCell (p := ⟨w.heap.size + 1, 0, none⟩) (.inr rfl) _).setCell (p := ⟨w.heap.size + 1, 1, none⟩) (.inr rfl) _).setCell (p := ⟨w.heap.size + 1, 2, none⟩) (.inr rfl) _).setCell (p := ⟨w.heap.size + 1, 3, none⟩) (.inr rfl) _
set_option maxHeartbeats 1000000 in
theorem doDel_any (h : QAt st0 w F y x s) (hf : Fine s B) : Calls Tryz.prog 10 #[.pointer (some ⟨y, 0, none⟩), opV 2 A Bb C S T] w (DoPost st0 w F x ⟨s.getErr A, 0, []⟩ (s.delR A)) := by
  have HQ : Hid (∀ w', Fr No w w' → Calls Tryz.prog 22 #[.pointer (some ⟨y, 0, none⟩), .int .i64 A] w' fun e w'' => e = .returned (.int .i64 (s.getErr A)) ∧ Both st0 w'' (fun k => (F k ∧ k < w.heap.size) ∨ Since w' w'' k) x (s.delR A) ∧ Fr (fun k => F k ∧ k < w.heap.size) w' w'') := fun w' f =>
    qDel_any y x _ s B w' A ⟨f.heap h.1 (fun h => h), (both_bound h.2).frNo f⟩ hf
  generalize (s.getErr A) = er at *
  generalize (s.delR A) = s' at *
  clear h hf
  unfold opV
  go_enter Tryz.func10, Tryz.ntmps10
  go_wp2_with (go_at_call 22; refine (HQ.out _ (((Fr.refl _ _).alloc _).alloc _)).mono ?_; rintro e w1 ⟨rfl, h1, f1⟩
               have hb1 : w1.heap[w.heap.size + 1]? = some (.cells #[.int .i64 0, .int .i64 0, .int .i64 0, .string (str [])] 40) := f1.heap (by have := heap_alloc_new (w.alloc (.cells #[.int .i64 2, .int .i64 A, .int .i64 Bb, .int .i64 C, .string (str S), .string (str T)] 37)) (.cells #[.int .i64 0, .int .i64 0, .int .i64 0, .string (str [])] 40); simp only [World.size_alloc] at this; exact this) (fun h => by have := h.2; omega)
               have q0 := cell_of_heap hb1 0
               have q1 := cell_of_heap hb1 1
               have q2 := cell_of_heap hb1 2
               have q3 := cell_of_heap hb1 3
               have fz := frozen_of_heap hb1
               have hac := ans_cells hb1
               have HS : Hid (Both st0 w1 (fun k => (F k ∧ k < w.heap.size) ∨ (w.heap.size + 2 ≤ k ∧ k < w1.heap.size)) x s' ∧ Fr (fun k => F k ∧ k < w.heap.size) w w1) := ⟨h1.mono (fun k hk => hk.imp_right (fun e => ⟨by have := e.1; simp only [World.size_alloc] at this; omega, e.2⟩)), (((Fr.refl _ w).alloc _).alloc _).trans f1⟩
               clear h1 f1)
  refine bodyPost_ret (v := ansV er 0 []) (by simp [results, Tryz.results10, go_sem, ansV, hac] <;> rfl) rfl ⟨rfl, do_end HS.out.1 HS.out.2 ?_⟩
  exact ((((Fr.refl (fun k => k = w.heap.size + 1) w1).setCell (p := ⟨w.heap.size + 1, 0, none⟩) (.inr rfl) _).setCell (p := ⟨w.heap.size + 1, 1, none⟩) (.inr rfl) _).setCell (p := ⟨w.heap.size + 1, 2, none⟩) (.inr rfl) _).setCell (p := ⟨w.heap.size + 1, 3, none⟩) (.inr rfl) _
set_option maxHeartbeats 1000000 in
theorem doDrop_any (h : QAt st0 w F y x s) (hf : Fine s B) : Calls Tryz.prog 10 #[.pointer (some ⟨y, 0, none⟩), opV 3 A Bb C S T] w (DoPost st0 w F x ⟨0, s.cnt A, []⟩ (s.drop A)) := by
  have HQ : Hid (∀ w', Fr No w w' → Calls Tryz.prog 23 #[.pointer (some ⟨y, 0, none⟩), .int .i64 A] w' fun e w'' => e = .returned (.int .i64 (s.cnt A : Int)) ∧ Both st0 w'' (fun k => (F k ∧ k < w.heap.size) ∨ Since w' w'' k) x (s.drop A) ∧ Fr (fun k => F k ∧ k < w.heap.size) w' w'') := fun w' f =>
    qDrop_any y x _ s B w' A ⟨f.heap h.1 (fun h => h), (both_bound h.2).frNo f⟩ hf
  generalize (s.cnt A : Int) = er at *
  generalize (s.drop A) = s' at *
  clear h hf
  unfold opV
  go_enter Tryz.func10, Tryz.ntmps10
  go_wp2_with (go_at_call 23; refine (HQ.out _ (((Fr.refl _ _).alloc _).alloc _)).mono ?_; rintro e w1 ⟨rfl, h1, f1⟩
               have hb1 : w1.heap[w.heap.size + 1]? = some (.cells #[.int .i64 0, .int .i64 0, .int .i64 0, .string (str [])] 40) := f1.heap (by have := heap_alloc_new (w.alloc (.cells #[.int .i64 3, .int .i64 A, .int .i64 Bb, .int .i64 C, .string (str S), .string (str T)] 37)) (.cells #[.int .i64 0, .int .i64 0, .int .i64 0, .string (str [])] 40); simp only [World.size_alloc] at this; exact this) (fun h => by have := h.2; omega)
               have q0 := cell_of_heap hb1 0
               have q1 := cell_of_heap hb1 1
               have q2 := cell_of_heap hb1 2
               have q3 := cell_of_heap hb1 3
               have fz := frozen_of_heap hb1
               have hac := ans_cells hb1
               have HS : Hid (Both st0 w1 (fun k => (F k ∧ k < w.heap.size) ∨ (w.heap.size + 2 ≤ k ∧ k < w1.heap.size)) x s' ∧ Fr (fun k => F k ∧ k < w.heap.size) w w1) := ⟨h1.mono (fun k hk => hk.imp_right (fun e => ⟨by have := e.1; simp only [World.size_alloc] at this; omega, e.2⟩)), (((Fr.refl _ w).alloc _).alloc _).trans f1⟩
               clear h1 f1)
  refine bodyPost_ret (v := ansV 0 er []) (by simp [results, Tryz.results10, go_sem, ansV, hac] <;> rfl) rfl ⟨rfl, do_end HS.out.1 HS.out.2 ?_⟩
  exact ((((Fr.refl (fun k => k = w.heap.size + 1) w1).setCell (p := ⟨w.heap.size + 1, 0, none⟩) (.inr rfl) _).setCell (p := ⟨w.heap.size + 1, 1, none⟩) (.inr rfl) _).setCell (p := ⟨w.heap.size + 1, 2, none⟩) (.inr rfl) _).setCell (p := ⟨w.heap.size + 1, 3, none⟩) (.inr rfl) _
set_option maxHeartbeats 1000000 in
theorem doReset_any (h : QAt st0 w F y x s) (hf : Fine s B) : Calls Tryz.prog 10 #[.pointer (some ⟨y, 0, none⟩), opV 10 A Bb C S T] w (DoPost st0 w F x ⟨0, s.ids.length, []⟩ (s.reset)) := by
  have HQ : Hid (∀ w', Fr No w w' → Calls Tryz.prog 31 #[.pointer (some ⟨y, 0, none⟩)] w' fun e w'' => e = .returned (.int .i64 (s.ids.length : Int)) ∧ Both st0 w'' (fun k => (F k ∧ k < w.heap.size) ∨ Since w' w'' k) x (s.reset) ∧ Fr (fun k => F k ∧ k < w.heap.size) w' w'') := fun w' f =>
    qReset_any y x _ s B w' ⟨f.heap h.1 (fun h => h), (both_bound h.2).frNo f⟩ hf
  generalize (s.ids.length : Int) = er at *
  generalize (s.reset) = s' at *
  clear h hf
  unfold opV
  go_enter Tryz.func10, Tryz.ntmps10
  go_wp2_with (go_at_call 31; refine (HQ.out _ (((Fr.refl _ _).alloc _).alloc _)).mono ?_; rintro e w1 ⟨rfl, h1, f1⟩
               have hb1 : w1.heap[w.heap.size + 1]? = some (.cells #[.int .i64 0, .int .i64 0, .int .i64 0, .string (str [])] 40) := f1.heap (by have := heap_alloc_new (w.alloc (.cells #[.int .i64 10, .int .i64 A, .int .i64 Bb, .int .i64 C, .string (str S), .string (str T)] 37)) (.cells #[.int .i64 0, .int .i64 0, .int .i64 0, .string (str [])] 40); simp only [World.size_alloc] at this; exact this) (fun h => by have := h.2; omega)
               have q0 := cell_of_heap hb1 0
               have q1 := cell_of_heap hb1 1
               have q2 := cell_of_heap hb1 2
               have q3 := cell_of_heap hb1 3
               have fz := frozen_of_heap hb1
               have hac := ans_cells hb1
               have HS : Hid (Both st0 w1 (fun k => (F k ∧ k < w.heap.size) ∨ (w.heap.size + 2 ≤ k ∧ k < w1.heap.size)) x s' ∧ Fr (fun k => F k ∧ k < w.heap.size) w w1) := ⟨h1.mono (fun k hk => hk.imp_right (fun e => ⟨by have := e.1; simp only [World.size_alloc] at this; omega, e.2⟩)), (((Fr.refl _ w).alloc _).alloc _).trans f1⟩
               clear h1 f1)
  refine bodyPost_ret (v := ansV 0 er []) (by simp [results, Tryz.results10, go_sem, ansV, hac] <;> rfl) rfl ⟨rfl, do_end HS.out.1 HS.out.2 ?_⟩
  exact ((((Fr.refl (fun k => k = w.heap.size + 1) w1).setCell (p := ⟨w.heap.size + 1, 0, none⟩) (.inr rfl) _).setCell (p := ⟨w.heap.size + 1, 1, none⟩) (.inr rfl) _).setCell (p := ⟨w.heap.size + 1, 2, none⟩) (.inr rfl) _).setCell (p := ⟨w.heap.size + 1, 3, none⟩) (.inr rfl) _
set_option maxHeartbeats 1000000 in
theorem doShow_any (h : QAt st0 w F y x s) (hf : Fine s B) (hB : B < 1000000000000000000) : Calls Tryz.prog 10 #[.pointer (some ⟨y, 0, none⟩), opV 7 A Bb C S T] w (AskPost w 0 0 (ixShow s)) := by
  have HQ : Hid (∀ w', Fr No w w' → Calls Tryz.prog 13 #[.pointer (some ⟨y, 0, none⟩)] w' fun e w'' => e = .returned (.string (str (ixShow s))) ∧ Fr No w' w'') := fun w' f =>
    qShow_any y x F s B w' ⟨f.heap h.1 (fun h => h), h.2.frNo f⟩ hf hB
  clear h hf
  generalize ixShow s = t at *
  unfold opV
  go_enter Tryz.func10, Tryz.ntmps10
  go_wp2_with (go_at_call 13; refine (HQ.out _ (((Fr.refl _ _).alloc _).alloc _)).mono ?_; rintro e w1 ⟨rfl, f1⟩
               have hb1 : w1.heap[w.heap.size + 1]? = some (.cells #[.int .i64 0, .int .i64 0, .int .i64 0, .string (str [])] 40) := f1.heap (by have := heap_alloc_new (w.alloc (.cells #[.int .i64 7, .int .i64 A, .int .i64 Bb, .int .i64 C, .string (str S), .string (str T)] 37)) (.cells #[.int .i64 0, .int .i64 0, .int .i64 0, .string (str [])] 40); simp only [World.size_alloc] at this; exact this) (fun h => h)
               have q0 := cell_of_heap hb1 0
               have q1 := cell_of_heap hb1 1
               have q2 := cell_of_heap hb1 2
               have q3 := cell_of_heap hb1 3
               have fz := frozen_of_heap hb1
               have hac := ans_cells hb1)
  refine bodyPost_ret (v := ansV 0 0 t) (by simp [results, Tryz.results10, go_sem, ansV, hac] <;> rfl) rfl ⟨rfl, ?_⟩
  have f0 : Fr No w w1 := (((Fr.refl No w).alloc _).alloc _).trans f1
  repeat (first | exact f0 | refine Fr.setCell ?_ (.inl (Nat.le_succ _)) _)
set_option maxHeartbeats 1000000 in
theorem doLen_any (h : QAt st0 w F y x s) (hf : Fine s B) : Calls Tryz.prog 10 #[.pointer (some ⟨y, 0, none⟩), opV 9 A Bb C S T] w (AskPost w 0 (s.ids.length : Int) []) := by
  have HQ : Hid (∀ w', Fr No w w' → Calls Tryz.prog 30 #[.pointer (some ⟨y, 0, none⟩)] w' fun e w'' => e = .returned (.int .i64 (s.ids.length : Int)) ∧ Fr No w' w'') := fun w' f =>
    (qLen_any y x F s B w' ⟨f.heap h.1 (fun h => h), h.2.frNo f⟩ hf).mono fun e w'' ⟨h1, h2⟩ => ⟨h1, by rw [h2]; exact Fr.refl _ _⟩
  clear h hf
  generalize (s.ids.length : Int) = n at *
  unfold opV
  go_enter Tryz.func10, Tryz.ntmps10
  go_wp2_with (go_at_call 30; refine (HQ.out _ (((Fr.refl _ _).alloc _).alloc _)).mono ?_; rintro e w1 ⟨rfl, f1⟩
               have hb1 : w1.heap[w.heap.size + 1]? = some (.cells #[.int .i64 0, .int .i64 0, .int .i64 0, .string (str [])] 40) := f1.heap (by have := heap_alloc_new (w.alloc (.cells #[.int .i64 9, .int .i64 A, .int .i64 Bb, .int .i64 C, .string (str S), .string (str T)] 37)) (.cells #[.int .i64 0, .int .i64 0, .int .i64 0, .string (str [])] 40); simp only [World.size_alloc] at this; exact this) (fun h => h)
               have q0 := cell_of_heap hb1 0
               have q1 := cell_of_heap hb1 1
               have q2 := cell_of_heap hb1 2
               have q3 := cell_of_heap hb1 3
               have fz := frozen_of_heap hb1
               have hac := ans_cells hb1)
  refine bodyPost_ret (v := ansV 0 n []) (by simp [results, Tryz.results10, go_sem, ansV, hac] <;> rfl) rfl ⟨rfl, ?_⟩
  have f0 : Fr No w w1 := (((Fr.refl No w).alloc _).alloc _).trans f1
  repeat (first | exact f0 | refine Fr.setCell ?_ (.inl (Nat.le_succ _)) _)
set_option maxHeartbeats 1000000 in
theorem doCheck_any (h : QAt st0 w F y x s) (hf : Fine s B) : Calls Tryz.prog 10 #[.pointer (some ⟨y, 0, none⟩), opV 8 A Bb C S T] w (AskPost w 0 0 []) := by
  have HQ : Hid (∀ w', Fr No w w' → Calls Tryz.prog 32 #[.pointer (some ⟨y, 0, none⟩)] w' fun e w'' => e = .returned (.bool true) ∧ Fr No w' w'') := fun w' f =>
    (qCheck_any y x F s w' ⟨f.heap h.1 (fun h => h), h.2.frNo f⟩).mono fun e w'' ⟨h1, h2⟩ => ⟨h1, by rw [h2]; exact Fr.refl _ _⟩
  clear h hf
  unfold opV
  go_enter Tryz.func10, Tryz.ntmps10
  go_wp2_with (go_at_call 32; refine (HQ.out _ (((Fr.refl _ _).alloc _).alloc _)).mono ?_; rintro e w1 ⟨rfl, f1⟩
               have hb1 : w1.heap[w.heap.size + 1]? = some (.cells #[.int .i64 0, .int .i64 0, .int .i64 0, .string (str [])] 40) := f1.heap (by have := heap_alloc_new (w.alloc (.cells #[.int .i64 8, .int .i64 A, .int .i64 Bb, .int .i64 C, .string (str S), .string (str T)] 37)) (.cells #[.int .i64 0, .int .i64 0, .int .i64 0, .string (str [])] 40); simp only [World.size_alloc] at this; exact this) (fun h => h)
               have q0 := cell_of_heap hb1 0
               have q1 := cell_of_heap hb1 1
               have q2 := cell_of_heap hb1 2
               have q3 := cell_of_heap hb1 3
               have fz := frozen_of_heap hb1
               have hac := ans_cells hb1)
  refine bodyPost_ret (v := ansV 0 0 []) (by simp [results, Tryz.results10, go_sem, ansV, hac] <;> rfl) rfl ⟨rfl, ?_⟩
  have f0 : Fr No w w1 := (((Fr.refl No w).alloc _).alloc _).trans f1
  repeat (first | exact f0 | refine Fr.setCell ?_ (.inl (Nat.le_succ _)) _)
set_option maxHeartbeats 1000000 in
theorem doOther_any (k : Int) (hk : k ≠ 1 ∧ k ≠ 2 ∧ k ≠ 3 ∧ k ≠ 4 ∧ k ≠ 5 ∧ k ≠ 6 ∧ k ≠ 7 ∧ k ≠ 8 ∧ k ≠ 9 ∧ k ≠ 10) : Calls Tryz.prog 10 #[.pointer (some ⟨y, 0, none⟩), opV k A Bb C S T] w (AskPost w 0 0 []) := by
  have k1 : (k == 1) = false := by simp [hk]
  have k2 : (k == 2) = false := by simp [hk]
  have k3 : (k == 3) = false := by simp [hk]
  have k4 : (k == 4) = false := by simp [hk]
  have k5 : (k == 5) = false := by simp [hk]
  have k6 : (k == 6) = false := by simp [hk]
  have k7 : (k == 7) = false := by simp [hk]
  have k8 : (k == 8) = false := by simp [hk]
  have k9 : (k == 9) = false := by simp [hk]
  have k10 : (k == 10) = false := by simp [hk]
  clear hk
  unfold opV
  go_enter Tryz.func10, Tryz.ntmps10
  go_wp2
  refine bodyPost_ret (v := ansV 0 0 []) (by simp [results, Tryz.results10, go_sem, ansV] <;> rfl) rfl ⟨rfl, ?_⟩
  have f0 : Fr No w ((w.alloc (.cells #[.int .i64 k, .int .i64 A, .int .i64 Bb, .int .i64 C, .string (str S), .string (str T)] 37)).alloc (.cells #[.int .i64 0, .int .i64 0, .int .i64 0, .string (str [])] 40)) := ((Fr.refl No w).alloc _).alloc _
  repeat (first | exact f0 | refine Fr.setCell ?_ (.inl (Nat.le_succ _)) _)
end
theorem do_any (y x : Nat) (F : Nat → Prop) (s : St) (B : Int) (w : World) (o : Op) (h : QAt st0 w F y x s) (hf : Fine s B) (hB : B < 1000000000000000000) : Calls Tryz.prog 10 #[.pointer (some ⟨y, 0, none⟩), o.v] w (DoPost st0 w F x (doA s o) (doS s o)) := by
  obtain ⟨k, A, Bb, C, S, T⟩ := o
  unfold doA doS Op.v
  simp only []
  by_cases h1 : k = 1
  · subst h1; exact doPut_any y x F s B w A Bb C S T h hf hB
  by_cases h2 : k = 2
  · subst h2; exact doDel_any y x F s B w A Bb C S T h hf
  by_cases h3 : k = 3
  · subst h3; exact doDrop_any y x F s B w A Bb C S T h hf
  by_cases h4 : k = 4
  · subst h4; exact ask_do h.2 (doFind_any y x F s B w A Bb C S T h hf)
  by_cases h5 : k = 5
  · subst h5; exact ask_do h.2 (doGroups_any y x F s B w A Bb C S T h hf)
  by_cases h6 : k = 6
  · subst h6; exact ask_do h.2 (doTop_any y x F s B w A Bb C S T h hf)
  by_cases h7 : k = 7
  · subst h7; exact ask_do h.2 (doShow_any y x F s B w A Bb C S T h hf hB)
  by_cases h8 : k = 8
  · subst h8; exact ask_do h.2 (doCheck_any y x F s B w A Bb C S T h hf)
  by_cases h9 : k = 9
  · subst h9; exact ask_do h.2 (doLen_any y x F s B w A Bb C S T h hf)
  by_cases h10 : k = 10
  · subst h10; exact doReset_any y x F s B w A Bb C S T h hf
  rw [if_neg h1, if_neg h2, if_neg h3, if_neg h4, if_neg h5, if_neg h6, if_neg h7, if_neg h9, if_neg h10, if_neg h1, if_neg h2, if_neg h3, if_neg h10]
  exact ask_do h.2 (doOther_any y w A Bb C S T k ⟨h1, h2, h3, h4, h5, h6, h7, h8, h9, h10⟩)
theorem Fine.doS {s : St} {B : Int} (h : Fine s B) (o : Op) : Fine (doS s o) (B + 1) := by
  unfold Go.Proofs.Qxb6500357aGreat.doS
  split
  · exact h.putR _ _ _
  split
  · exact (h.delR _).mono (by omega)
  split
  · exact (h.drop _).mono (by omega)
  split
  · exact ⟨fun i d hd => by simp [St.reset] at hd, (by rw [show s.reset.ids = [] by unfold St.ids St.reset; simp]; simp), fun i => ⟨(h.revs i).1, by have := (h.revs i).2; show s.revs i ≤ B + 1; omega⟩, h.out⟩
  · exact h.mono (by omega)
end Go.Proofs.Qxb6500357aGreat
