/- DoM: one step on the model. -/
import Derived.Test.Qxb6500357aGreatMQ2
import Derived.Test.Qxb6500357aGreatDo
namespace Go.Tag
open Go.RowKit Go.Proofs.Qxb6500357aGreat
set_option linter.unusedVariables false
set_option linter.unusedSimpArgs false
theorem MX.weak {w : World} {F F' : Nat → Prop} {x b : Nat} {s : St} (h : MX w F x b s) (hF : ∀ k, F k → F' k) (hl : ∀ k, F' k → k < w.heap.size) (hx : ¬ F' x) : MX w F' x b s := by
  obtain ⟨ax, h⟩ := h
  obtain ⟨D, a, hS⟩ := h.st
  exact ⟨ax, h.root, ⟨D, a, hS.weak hF hl⟩, hx⟩
theorem mdo_end {w w1 wf : World} {F : Nat → Prop} {x b n2 : Nat} {s' : St} (h1 : MX w1 (fun k => (F k ∨ n2 ≤ k) ∧ k < w1.heap.size) x b s') (hn : n2 = w.heap.size + 2) (hF : ∀ k, FX F x k → k < w.heap.size) (hx : ¬ F x) (f1 : Fr (FX F x) w w1) (f2 : Fr (fun k => k = w.heap.size + 1) w1 wf) : MX wf (NewF F w wf) x b s' ∧ Fr (FX F x) w wf := by
  have hxl := hF x (.inr rfl)
  have h2 := h1.fr f2 (fun k hk e => by
    rcases hk with hk | hk
    · rcases hk.1 with hk | hk
      · have := hF k (.inl hk); omega
      · omega
    · omega)
  have hsz := f2.size
  refine ⟨h2.weak (fun k hk => ⟨?_, by have := hk.2; omega⟩) (fun k hk => hk.2) (fun e => ?_), f1.trans' f2 (fun i hi e => by omega)⟩
  · rcases hk.1 with hk | hk
    · exact .inl hk
    · exact .inr (by omega)
  · rcases e.1 with e | e
    · exact hx e
    · omega
theorem mx_grow {w : World} {F : Nat → Prop} {x b n2 : Nat} {s : St} (h : MX w F x b s) (hx : ¬ F x) (hl : x < n2) : MX w (fun k => (F k ∨ n2 ≤ k) ∧ k < w.heap.size) x b s :=
  h.weak (fun k hk => ⟨.inl hk, h.lt k (.inl hk)⟩) (fun k hk => hk.2) (fun e => by
    rcases e.1 with e | e
    · exact hx e
    · omega)
end Go.Tag
namespace Go.Proofs.Qxb6500357aGreat
open Go.RowKit Go.Tag
set_option linter.unusedVariables false
set_option linter.unusedSimpArgs false
set_option maxRecDepth 100000
attribute [local simp] str_size
attribute [local go_sem] str_size
def MDoPost (w : World) (F : Nat → Prop) (x b : Nat) (a : Ans) (s' : St) (e : Ending) (w' : World) : Prop := e = .returned a.v ∧ MX w' (NewF F w w') x b s' ∧ Fr (FX F x) w w'
section
variable (y x b : Nat) (F : Nat → Prop) (s : St) (B : Int) (w : World) (A Bb C : Int) (S T : List UInt8)
set_option maxHeartbeats 1000000 in
theorem mdoPut_any (h : MQ w F y x b s) (hf : Fine s B) (hB : B < 1000000000000000000) : Calls Tryz.prog 12 #[.pointer (some ⟨y, 0, none⟩), opV 1 A Bb C S T] w (MDoPost w F x b ⟨(s.putErr A Bb S), 0, []⟩ (s.putR A Bb S)) := by
  have HQ : Hid (∀ w', Fr No w w' → Calls Tryz.prog 35 #[.pointer (some ⟨y, 0, none⟩), .int .i64 A, .int .i64 Bb, .string (str S)] w' (MXTurn w' F x b (s.putR A Bb S) (.int .i64 (s.putErr A Bb S)))) := fun w' f => mqPut_any y x b F s B w' A Bb S (h.frNo f) hf hB
  have HL : Hid (∀ k, FX F x k → k < w.heap.size) := h.ix.lt
  have HX : Hid (¬ F x) := by obtain ⟨ax, h1⟩ := h.ix; exact h1.ne
  generalize (s.putErr A Bb S) = er at *
  generalize (s.putR A Bb S) = s' at *
  clear h
  unfold opV
  go_enter Tryz.func12, Tryz.ntmps12
  go_wp2_with (go_at_call 35; refine (HQ.out _ (((Fr.refl _ _).alloc _).alloc _)).mono ?_; rintro e w1 ⟨rfl, h1, f1⟩
               have hb1 : w1.heap[w.heap.size + 1]? = some (.cells #[.int .i64 0, .int .i64 0, .int .i64 0, .string (str [])] 40) := f1.heap (by have := heap_alloc_new (w.alloc (.cells #[.int .i64 1, .int .i64 A, .int .i64 Bb, .int .i64 C, .string (str S), .string (str T)] 37)) (.cells #[.int .i64 0, .int .i64 0, .int .i64 0, .string (str [])] 40); simp only [World.size_alloc] at this; exact this) (fun e => by have := HL.out _ e; omega)
               have q0 := cell_of_heap hb1 0
               have q1 := cell_of_heap hb1 1
               have q2 := cell_of_heap hb1 2
               have q3 := cell_of_heap hb1 3
               have fz := frozen_of_heap hb1
               have hac := ans_cells hb1
               have HS : Hid (MX w1 (fun k => (F k ∨ ((w.alloc (.cells #[.int .i64 1, .int .i64 A, .int .i64 Bb, .int .i64 C, .string (str S), .string (str T)] 37)).alloc (.cells #[.int .i64 0, .int .i64 0, .int .i64 0, .string (str [])] 40)).heap.size ≤ k) ∧ k < w1.heap.size) x b s' ∧ Fr (FX F x) w w1) := ⟨h1, (((Fr.refl _ w).alloc _).alloc _).trans f1⟩
               clear h1 f1)
  refine bodyPost_ret (v := ansV er 0 []) (by simp [results, Tryz.results12, go_sem, ansV, hac] <;> rfl) rfl ⟨rfl, ?_⟩
  exact mdo_end HS.out.1 (by simp) HL.out HX.out HS.out.2 (((((Fr.refl (fun k => k = w.heap.size + 1) w1).setCell (p := ⟨w.heap.size + 1, 0, none⟩) (.inr rfl) _).setCell (p := ⟨w.heap.size + 1, 1, none⟩) (.inr rfl) _).setCell (p := ⟨w.heap.size + 1, 2, none⟩) (.inr rfl) _).setCell (p := ⟨w.heap.size + 1, 3, none⟩) (.inr rfl) _)
set_option maxHeartbeats 1000000 in
theorem mdoDel_any (h : MQ w F y x b s) (hf : Fine s B) : Calls Tryz.prog 12 #[.pointer (some ⟨y, 0, none⟩), opV 2 A Bb C S T] w (MDoPost w F x b ⟨(s.getErr A), 0, []⟩ (s.delR A)) := by
  have HQ : Hid (∀ w', Fr No w w' → Calls Tryz.prog 36 #[.pointer (some ⟨y, 0, none⟩), .int .i64 A] w' (MXTurn w' F x b (s.delR A) (.int .i64 (s.getErr A)))) := fun w' f => mqDel_any y x b F s B w' A (h.frNo f) hf
  have HL : Hid (∀ k, FX F x k → k < w.heap.size) := h.ix.lt
  have HX : Hid (¬ F x) := by obtain ⟨ax, h1⟩ := h.ix; exact h1.ne
  generalize (s.getErr A) = er at *
  generalize (s.delR A) = s' at *
  clear h
  unfold opV
  go_enter Tryz.func12, Tryz.ntmps12
  go_wp2_with (go_at_call 36; refine (HQ.out _ (((Fr.refl _ _).alloc _).alloc _)).mono ?_; rintro e w1 ⟨rfl, h1, f1⟩
               have hb1 : w1.heap[w.heap.size + 1]? = some (.cells #[.int .i64 0, .int .i64 0, .int .i64 0, .string (str [])] 40) := f1.heap (by have := heap_alloc_new (w.alloc (.cells #[.int .i64 2, .int .i64 A, .int .i64 Bb, .int .i64 C, .string (str S), .string (str T)] 37)) (.cells #[.int .i64 0, .int .i64 0, .int .i64 0, .string (str [])] 40); simp only [World.size_alloc] at this; exact this) (fun e => by have := HL.out _ e; omega)
               have q0 := cell_of_heap hb1 0
               have q1 := cell_of_heap hb1 1
               have q2 := cell_of_heap hb1 2
               have q3 := cell_of_heap hb1 3
               have fz := frozen_of_heap hb1
               have hac := ans_cells hb1
               have HS : Hid (MX w1 (fun k => (F k ∨ ((w.alloc (.cells #[.int .i64 2, .int .i64 A, .int .i64 Bb, .int .i64 C, .string (str S), .string (str T)] 37)).alloc (.cells #[.int .i64 0, .int .i64 0, .int .i64 0, .string (str [])] 40)).heap.size ≤ k) ∧ k < w1.heap.size) x b s' ∧ Fr (FX F x) w w1) := ⟨h1, (((Fr.refl _ w).alloc _).alloc _).trans f1⟩
               clear h1 f1)
  refine bodyPost_ret (v := ansV er 0 []) (by simp [results, Tryz.results12, go_sem, ansV, hac] <;> rfl) rfl ⟨rfl, ?_⟩
  exact mdo_end HS.out.1 (by simp) HL.out HX.out HS.out.2 (((((Fr.refl (fun k => k = w.heap.size + 1) w1).setCell (p := ⟨w.heap.size + 1, 0, none⟩) (.inr rfl) _).setCell (p := ⟨w.heap.size + 1, 1, none⟩) (.inr rfl) _).setCell (p := ⟨w.heap.size + 1, 2, none⟩) (.inr rfl) _).setCell (p := ⟨w.heap.size + 1, 3, none⟩) (.inr rfl) _)
set_option maxHeartbeats 1000000 in
theorem mdoDrop_any (h : MQ w F y x b s) (hf : Fine s B) : Calls Tryz.prog 12 #[.pointer (some ⟨y, 0, none⟩), opV 3 A Bb C S T] w (MDoPost w F x b ⟨0, (s.cnt A : Int), []⟩ (s.drop A)) := by
  have HQ : Hid (∀ w', Fr No w w' → Calls Tryz.prog 37 #[.pointer (some ⟨y, 0, none⟩), .int .i64 A] w' (MXTurn w' F x b (s.drop A) (.int .i64 (s.cnt A : Int)))) := fun w' f => mqDrop_any y x b F s w' A (h.frNo f) (by have := hf.size; omega)
  have HL : Hid (∀ k, FX F x k → k < w.heap.size) := h.ix.lt
  have HX : Hid (¬ F x) := by obtain ⟨ax, h1⟩ := h.ix; exact h1.ne
  generalize (s.cnt A : Int) = er at *
  generalize (s.drop A) = s' at *
  clear h
  unfold opV
  go_enter Tryz.func12, Tryz.ntmps12
  go_wp2_with (go_at_call 37; refine (HQ.out _ (((Fr.refl _ _).alloc _).alloc _)).mono ?_; rintro e w1 ⟨rfl, h1, f1⟩
               have hb1 : w1.heap[w.heap.size + 1]? = some (.cells #[.int .i64 0, .int .i64 0, .int .i64 0, .string (str [])] 40) := f1.heap (by have := heap_alloc_new (w.alloc (.cells #[.int .i64 3, .int .i64 A, .int .i64 Bb, .int .i64 C, .string (str S), .string (str T)] 37)) (.cells #[.int .i64 0, .int .i64 0, .int .i64 0, .string (str [])] 40); simp only [World.size_alloc] at this; exact this) (fun e => by have := HL.out _ e; omega)
               have q0 := cell_of_heap hb1 0
               have q1 := cell_of_heap hb1 1
               have q2 := cell_of_heap hb1 2
               have q3 := cell_of_heap hb1 3
               have fz := frozen_of_heap hb1
               have hac := ans_cells hb1
               have HS : Hid (MX w1 (fun k => (F k ∨ ((w.alloc (.cells #[.int .i64 3, .int .i64 A, .int .i64 Bb, .int .i64 C, .string (str S), .string (str T)] 37)).alloc (.cells #[.int .i64 0, .int .i64 0, .int .i64 0, .string (str [])] 40)).heap.size ≤ k) ∧ k < w1.heap.size) x b s' ∧ Fr (FX F x) w w1) := ⟨h1, (((Fr.refl _ w).alloc _).alloc _).trans f1⟩
               clear h1 f1)
  refine bodyPost_ret (v := ansV 0 er []) (by simp [results, Tryz.results12, go_sem, ansV, hac] <;> rfl) rfl ⟨rfl, ?_⟩
  exact mdo_end HS.out.1 (by simp) HL.out HX.out HS.out.2 (((((Fr.refl (fun k => k = w.heap.size + 1) w1).setCell (p := ⟨w.heap.size + 1, 0, none⟩) (.inr rfl) _).setCell (p := ⟨w.heap.size + 1, 1, none⟩) (.inr rfl) _).setCell (p := ⟨w.heap.size + 1, 2, none⟩) (.inr rfl) _).setCell (p := ⟨w.heap.size + 1, 3, none⟩) (.inr rfl) _)
set_option maxHeartbeats 1000000 in
theorem mdoReset_any (h : MQ w F y x b s) (hf : Fine s B) : Calls Tryz.prog 12 #[.pointer (some ⟨y, 0, none⟩), opV 10 A Bb C S T] w (MDoPost w F x b ⟨0, (s.ids.length : Int), []⟩ (s.reset)) := by
  have HQ : Hid (∀ w', Fr No w w' → Calls Tryz.prog 42 #[.pointer (some ⟨y, 0, none⟩)] w' (MXTurn w' F x b (s.reset) (.int .i64 (s.ids.length : Int)))) := fun w' f => mqReset_any y x b F s w' (h.frNo f)
  have HL : Hid (∀ k, FX F x k → k < w.heap.size) := h.ix.lt
  have HX : Hid (¬ F x) := by obtain ⟨ax, h1⟩ := h.ix; exact h1.ne
  generalize (s.ids.length : Int) = er at *
  generalize (s.reset) = s' at *
  clear h
  unfold opV
  go_enter Tryz.func12, Tryz.ntmps12
  go_wp2_with (go_at_call 42; refine (HQ.out _ (((Fr.refl _ _).alloc _).alloc _)).mono ?_; rintro e w1 ⟨rfl, h1, f1⟩
               have hb1 : w1.heap[w.heap.size + 1]? = some (.cells #[.int .i64 0, .int .i64 0, .int .i64 0, .string (str [])] 40) := f1.heap (by have := heap_alloc_new (w.alloc (.cells #[.int .i64 10, .int .i64 A, .int .i64 Bb, .int .i64 C, .string (str S), .string (str T)] 37)) (.cells #[.int .i64 0, .int .i64 0, .int .i64 0, .string (str [])] 40); simp only [World.size_alloc] at this; exact this) (fun e => by have := HL.out _ e; omega)
               have q0 := cell_of_heap hb1 0
               have q1 := cell_of_heap hb1 1
               have q2 := cell_of_heap hb1 2
               have q3 := cell_of_heap hb1 3
               have fz := frozen_of_heap hb1
               have hac := ans_cells hb1
               have HS : Hid (MX w1 (fun k => (F k ∨ ((w.alloc (.cells #[.int .i64 10, .int .i64 A, .int .i64 Bb, .int .i64 C, .string (str S), .string (str T)] 37)).alloc (.cells #[.int .i64 0, .int .i64 0, .int .i64 0, .string (str [])] 40)).heap.size ≤ k) ∧ k < w1.heap.size) x b s' ∧ Fr (FX F x) w w1) := ⟨h1, (((Fr.refl _ w).alloc _).alloc _).trans f1⟩
               clear h1 f1)
  refine bodyPost_ret (v := ansV 0 er []) (by simp [results, Tryz.results12, go_sem, ansV, hac] <;> rfl) rfl ⟨rfl, ?_⟩
  exact mdo_end HS.out.1 (by simp) HL.out HX.out HS.out.2 (((((Fr.refl (fun k => k = w.heap.size + 1) w1).setCell (p := ⟨w.heap.size + 1, 0, none⟩) (.inr rfl) _).setCell (p := ⟨w.heap.size + 1, 1, none⟩) (.inr rfl) _).setCell (p := ⟨w.heap.size + 1, 2, none⟩) (.inr rfl) _).setCell (p := ⟨w.heap.size + 1, 3, none⟩) (.inr rfl) _)
set_option maxHeartbeats 1000000 in
theorem mdoShow_any (h : MQ w F y x b s) (hf : Fine s B) (hB : B < 1000000000000000000) : Calls Tryz.prog 12 #[.pointer (some ⟨y, 0, none⟩), opV 7 A Bb C S T] w (MDoPost w F x b ⟨0, 0, ixShow s⟩ s) := by
  have HQ : Hid (∀ w', Fr No w w' → Calls Tryz.prog 14 #[.pointer (some ⟨y, 0, none⟩)] w' (MXAsk w' F x b s (.string (str (ixShow s))))) := fun w' f => mqShow_any y x b F s B w' (h.frNo f) hf hB
  have HL : Hid (∀ k, FX F x k → k < w.heap.size) := h.ix.lt
  have HX : Hid (¬ F x) := by obtain ⟨ax, h1⟩ := h.ix; exact h1.ne
  generalize ixShow s = t at *
  clear h
  unfold opV
  go_enter Tryz.func12, Tryz.ntmps12
  go_wp2_with (go_at_call 14; refine (HQ.out _ (((Fr.refl _ _).alloc _).alloc _)).mono ?_; rintro e w1 ⟨rfl, h1, f1⟩
               have hb1 : w1.heap[w.heap.size + 1]? = some (.cells #[.int .i64 0, .int .i64 0, .int .i64 0, .string (str [])] 40) := f1.heap (by have := heap_alloc_new (w.alloc (.cells #[.int .i64 7, .int .i64 A, .int .i64 Bb, .int .i64 C, .string (str S), .string (str T)] 37)) (.cells #[.int .i64 0, .int .i64 0, .int .i64 0, .string (str [])] 40); simp only [World.size_alloc] at this; exact this) (fun e => by have := HL.out _ e; omega)
               have q0 := cell_of_heap hb1 0
               have q1 := cell_of_heap hb1 1
               have q2 := cell_of_heap hb1 2
               have q3 := cell_of_heap hb1 3
               have fz := frozen_of_heap hb1
               have hac := ans_cells hb1
               have HS : Hid (MX w1 (fun k => (F k ∨ ((w.alloc (.cells #[.int .i64 7, .int .i64 A, .int .i64 Bb, .int .i64 C, .string (str S), .string (str T)] 37)).alloc (.cells #[.int .i64 0, .int .i64 0, .int .i64 0, .string (str [])] 40)).heap.size ≤ k) ∧ k < w1.heap.size) x b s ∧ Fr (FX F x) w w1) := ⟨mx_grow h1 HX.out (by have := HL.out x (.inr rfl); simp; omega), (((Fr.refl _ w).alloc _).alloc _).trans f1⟩
               clear h1 f1)
  refine bodyPost_ret (v := ansV 0 0 t) (by simp [results, Tryz.results12, go_sem, ansV, hac] <;> rfl) rfl ⟨rfl, ?_⟩
  exact mdo_end HS.out.1 (by simp) HL.out HX.out HS.out.2 (((((Fr.refl (fun k => k = w.heap.size + 1) w1).setCell (p := ⟨w.heap.size + 1, 0, none⟩) (.inr rfl) _).setCell (p := ⟨w.heap.size + 1, 1, none⟩) (.inr rfl) _).setCell (p := ⟨w.heap.size + 1, 2, none⟩) (.inr rfl) _).setCell (p := ⟨w.heap.size + 1, 3, none⟩) (.inr rfl) _)
set_option maxHeartbeats 1000000 in
theorem mdoLen_any (h : MQ w F y x b s)  : Calls Tryz.prog 12 #[.pointer (some ⟨y, 0, none⟩), opV 9 A Bb C S T] w (MDoPost w F x b ⟨0, s.ids.length, []⟩ s) := by
  have HQ : Hid (∀ w', Fr No w w' → Calls Tryz.prog 41 #[.pointer (some ⟨y, 0, none⟩)] w' (MXAsk w' F x b s (.int .i64 (s.ids.length : Int)))) := fun w' f => mqLen_any y x b F s w' (h.frNo f)
  have HL : Hid (∀ k, FX F x k → k < w.heap.size) := h.ix.lt
  have HX : Hid (¬ F x) := by obtain ⟨ax, h1⟩ := h.ix; exact h1.ne
  generalize (s.ids.length : Int) = n at *
  clear h
  unfold opV
  go_enter Tryz.func12, Tryz.ntmps12
  go_wp2_with (go_at_call 41; refine (HQ.out _ (((Fr.refl _ _).alloc _).alloc _)).mono ?_; rintro e w1 ⟨rfl, h1, f1⟩
               have hb1 : w1.heap[w.heap.size + 1]? = some (.cells #[.int .i64 0, .int .i64 0, .int .i64 0, .string (str [])] 40) := f1.heap (by have := heap_alloc_new (w.alloc (.cells #[.int .i64 9, .int .i64 A, .int .i64 Bb, .int .i64 C, .string (str S), .string (str T)] 37)) (.cells #[.int .i64 0, .int .i64 0, .int .i64 0, .string (str [])] 40); simp only [World.size_alloc] at this; exact this) (fun e => by have := HL.out _ e; omega)
               have q0 := cell_of_heap hb1 0
               have q1 := cell_of_heap hb1 1
               have q2 := cell_of_heap hb1 2
               have q3 := cell_of_heap hb1 3
               have fz := frozen_of_heap hb1
               have hac := ans_cells hb1
               have HS : Hid (MX w1 (fun k => (F k ∨ ((w.alloc (.cells #[.int .i64 9, .int .i64 A, .int .i64 Bb, .int .i64 C, .string (str S), .string (str T)] 37)).alloc (.cells #[.int .i64 0, .int .i64 0, .int .i64 0, .string (str [])] 40)).heap.size ≤ k) ∧ k < w1.heap.size) x b s ∧ Fr (FX F x) w w1) := ⟨mx_grow h1 HX.out (by have := HL.out x (.inr rfl); simp; omega), (((Fr.refl _ w).alloc _).alloc _).trans f1⟩
               clear h1 f1)
  refine bodyPost_ret (v := ansV 0 n []) (by simp [results, Tryz.results12, go_sem, ansV, hac] <;> rfl) rfl ⟨rfl, ?_⟩
  exact mdo_end HS.out.1 (by simp) HL.out HX.out HS.out.2 (((((Fr.refl (fun k => k = w.heap.size + 1) w1).setCell (p := ⟨w.heap.size + 1, 0, none⟩) (.inr rfl) _).setCell (p := ⟨w.heap.size + 1, 1, none⟩) (.inr rfl) _).setCell (p := ⟨w.heap.size + 1, 2, none⟩) (.inr rfl) _).setCell (p := ⟨w.heap.size + 1, 3, none⟩) (.inr rfl) _)
set_option maxHeartbeats 1000000 in
theorem mdoFind_any (h : MQ w F y x b s) (hf : Fine s B) : Calls Tryz.prog 12 #[.pointer (some ⟨y, 0, none⟩), opV 4 A Bb C S T] w (MDoPost w F x b ⟨findErr A S T, (findL s A S T).length, ints (findL s A S T)⟩ s) := by
  have HQ : Hid (∀ w', Fr No w w' → Calls Tryz.prog 38 #[.pointer (some ⟨y, 0, none⟩), .int .i64 A, .string (str S), .string (str T)] w' (MXIntsErr w' F x b s (findL s A S T) (findErr A S T))) := fun w' f => mqFind_any y x b F s B w' A S T (h.frNo f) hf
  have HN : Hid ((∀ n ∈ findL s A S T, 0 ≤ n ∧ n < 1000000000000000000) ∧ (findL s A S T).length ≤ 1000) := ⟨findL_num s A S T, findL_len s A S T⟩
  have HL : Hid (∀ k, FX F x k → k < w.heap.size) := h.ix.lt
  have HX : Hid (¬ F x) := by obtain ⟨ax, h1⟩ := h.ix; exact h1.ne
  generalize findL s A S T = L at *
  generalize findErr A S T = er at *
  clear h hf
  unfold opV
  go_enter Tryz.func12, Tryz.ntmps12
  go_wp2_with first
    | (go_at_call 38; refine (HQ.out _ (((Fr.refl _ _).alloc _).alloc _)).mono ?_; rintro e w1 ⟨v, rfl, ho, h1, f1, hnil⟩
       have hb1 : w1.heap[w.heap.size + 1]? = some (.cells #[.int .i64 0, .int .i64 0, .int .i64 0, .string (str [])] 40) := f1.heap (by have := heap_alloc_new (w.alloc (.cells #[.int .i64 4, .int .i64 A, .int .i64 Bb, .int .i64 C, .string (str S), .string (str T)] 37)) (.cells #[.int .i64 0, .int .i64 0, .int .i64 0, .string (str [])] 40); simp only [World.size_alloc] at this; exact this) (fun e => by have := HL.out _ e; omega)
       have HO : Hid (w1.ownsRow ((w.alloc (.cells #[.int .i64 4, .int .i64 A, .int .i64 Bb, .int .i64 C, .string (str S), .string (str T)] 37)).alloc (.cells #[.int .i64 0, .int .i64 0, .int .i64 0, .string (str [])] 40)).heap.size 3 1 v L.length (L.map (Value.int .i64)) ∧ (L = [] → v = .slice none 0 0) ∧ MX w1 F x b s ∧ Fr (FX F x) w w1) := ⟨ho, hnil, h1, (((Fr.refl _ w).alloc _).alloc _).trans f1⟩
       clear ho hnil f1 h1)
    | (go_at_call 25; refine (lawIds_any v L er _ w1 HO.out.1 HO.out.2.1 HN.out.1 HN.out.2).mono ?_; rintro e w2 ⟨rfl, f2⟩
       have hb2 : w2.heap[w.heap.size + 1]? = some (.cells #[.int .i64 0, .int .i64 0, .int .i64 0, .string (str [])] 40) := f2.heap hb1 (fun e => by have := own_ge HO.out.1 e; simp at this; omega)
       have q0 := cell_of_heap hb2 0
       have q1 := cell_of_heap hb2 1
       have q2 := cell_of_heap hb2 2
       have q3 := cell_of_heap hb2 3
       have fz := frozen_of_heap hb2
       have hac := ans_cells hb2
       have HS : Hid (MX w2 (fun k => (F k ∨ ((w.alloc (.cells #[.int .i64 4, .int .i64 A, .int .i64 Bb, .int .i64 C, .string (str S), .string (str T)] 37)).alloc (.cells #[.int .i64 0, .int .i64 0, .int .i64 0, .string (str [])] 40)).heap.size ≤ k) ∧ k < w2.heap.size) x b s ∧ Fr (FX F x) w w2) := by
         have hx := HL.out x (.inr rfl)
         refine ⟨mx_grow (HO.out.2.2.1.fr f2 (fun k hk e => by have h9 := own_ge HO.out.1 e; simp at h9; have h8 := HL.out k hk; omega)) HX.out (by simp; omega), HO.out.2.2.2.trans' f2 (fun i hi e => by have h9 := own_ge HO.out.1 e; simp at h9; omega)⟩
       clear f2
       unfold ansV)
  refine bodyPost_ret (v := ansV er L.length (ints L)) (by simp [results, Tryz.results12, go_sem, ansV, hac]) rfl ⟨rfl, ?_⟩
  exact mdo_end HS.out.1 (by simp) HL.out HX.out HS.out.2 (((((Fr.refl (fun k => k = w.heap.size + 1) w2).setCell (p := ⟨w.heap.size + 1, 0, none⟩) (.inr rfl) _).setCell (p := ⟨w.heap.size + 1, 1, none⟩) (.inr rfl) _).setCell (p := ⟨w.heap.size + 1, 2, none⟩) (.inr rfl) _).setCell (p := ⟨w.heap.size + 1, 3, none⟩) (.inr rfl) _)
set_option maxHeartbeats 1000000 in
theorem mdoGroups_any (h : MQ w F y x b s) (hf : Fine s B) : Calls Tryz.prog 12 #[.pointer (some ⟨y, 0, none⟩), opV 5 A Bb C S T] w (MDoPost w F x b ⟨groupsErr S, (groupsL s S).length, counts (groupsL s S)⟩ s) := by
  have HQ : Hid (∀ w', Fr No w w' → Calls Tryz.prog 39 #[.pointer (some ⟨y, 0, none⟩), .string (str S)] w' (MXCountsErr w' F x b s (groupsL s S) (groupsErr S))) := fun w' f => mqGroups_any y x b F s B w' S (h.frNo f) hf
  have HN : Hid ((∀ n ∈ groupsL s S, (0 ≤ n.1 ∧ n.1 < 1000000000000000000) ∧ (0 ≤ n.2 ∧ n.2 < 1000000000000000000)) ∧ (groupsL s S).length ≤ 1000) := ⟨groupsL_num s S, groupsL_len s S⟩
  have HL : Hid (∀ k, FX F x k → k < w.heap.size) := h.ix.lt
  have HX : Hid (¬ F x) := by obtain ⟨ax, h1⟩ := h.ix; exact h1.ne
  generalize groupsL s S = L at *
  generalize groupsErr S = er at *
  clear h hf
  unfold opV
  go_enter Tryz.func12, Tryz.ntmps12
  go_wp2_with first
    | (go_at_call 39; refine (HQ.out _ (((Fr.refl _ _).alloc _).alloc _)).mono ?_; rintro e w1 ⟨v, rfl, ho, h1, f1, hnil⟩
       have hb1 : w1.heap[w.heap.size + 1]? = some (.cells #[.int .i64 0, .int .i64 0, .int .i64 0, .string (str [])] 40) := f1.heap (by have := heap_alloc_new (w.alloc (.cells #[.int .i64 5, .int .i64 A, .int .i64 Bb, .int .i64 C, .string (str S), .string (str T)] 37)) (.cells #[.int .i64 0, .int .i64 0, .int .i64 0, .string (str [])] 40); simp only [World.size_alloc] at this; exact this) (fun e => by have := HL.out _ e; omega)
       have HO : Hid (w1.ownsRow ((w.alloc (.cells #[.int .i64 5, .int .i64 A, .int .i64 Bb, .int .i64 C, .string (str S), .string (str T)] 37)).alloc (.cells #[.int .i64 0, .int .i64 0, .int .i64 0, .string (str [])] 40)).heap.size 101 2 v L.length (cells2 L) ∧ (L = [] → v = .slice none 0 0) ∧ MX w1 F x b s ∧ Fr (FX F x) w w1) := ⟨ho, hnil, h1, (((Fr.refl _ w).alloc _).alloc _).trans f1⟩
       clear ho hnil f1 h1)
    | (go_at_call 27; refine (lawPairs_any v L er _ w1 HO.out.1 HO.out.2.1 HN.out.1 HN.out.2).mono ?_; rintro e w2 ⟨rfl, f2⟩
       have hb2 : w2.heap[w.heap.size + 1]? = some (.cells #[.int .i64 0, .int .i64 0, .int .i64 0, .string (str [])] 40) := f2.heap hb1 (fun e => by have := own_ge HO.out.1 e; simp at this; omega)
       have q0 := cell_of_heap hb2 0
       have q1 := cell_of_heap hb2 1
       have q2 := cell_of_heap hb2 2
       have q3 := cell_of_heap hb2 3
       have fz := frozen_of_heap hb2
       have hac := ans_cells hb2
       have HS : Hid (MX w2 (fun k => (F k ∨ ((w.alloc (.cells #[.int .i64 5, .int .i64 A, .int .i64 Bb, .int .i64 C, .string (str S), .string (str T)] 37)).alloc (.cells #[.int .i64 0, .int .i64 0, .int .i64 0, .string (str [])] 40)).heap.size ≤ k) ∧ k < w2.heap.size) x b s ∧ Fr (FX F x) w w2) := by
         have hx := HL.out x (.inr rfl)
         refine ⟨mx_grow (HO.out.2.2.1.fr f2 (fun k hk e => by have h9 := own_ge HO.out.1 e; simp at h9; have h8 := HL.out k hk; omega)) HX.out (by simp; omega), HO.out.2.2.2.trans' f2 (fun i hi e => by have h9 := own_ge HO.out.1 e; simp at h9; omega)⟩
       clear f2
       unfold ansV)
  refine bodyPost_ret (v := ansV er L.length (counts L)) (by simp [results, Tryz.results12, go_sem, ansV, hac]) rfl ⟨rfl, ?_⟩
  exact mdo_end HS.out.1 (by simp) HL.out HX.out HS.out.2 (((((Fr.refl (fun k => k = w.heap.size + 1) w2).setCell (p := ⟨w.heap.size + 1, 0, none⟩) (.inr rfl) _).setCell (p := ⟨w.heap.size + 1, 1, none⟩) (.inr rfl) _).setCell (p := ⟨w.heap.size + 1, 2, none⟩) (.inr rfl) _).setCell (p := ⟨w.heap.size + 1, 3, none⟩) (.inr rfl) _)
set_option maxHeartbeats 1000000 in
theorem mdoTop_any (h : MQ w F y x b s) (hf : Fine s B) : Calls Tryz.prog 12 #[.pointer (some ⟨y, 0, none⟩), opV 6 A Bb C S T] w (MDoPost w F x b ⟨topErr A, (topL s A).length, strs (topL s A)⟩ s) := by
  have HQ : Hid (∀ w', Fr No w w' → Calls Tryz.prog 40 #[.pointer (some ⟨y, 0, none⟩), .int .i64 A] w' (MXStrsErr w' F x b s (topL s A) (topErr A))) := fun w' f => mqTop_any y x b F s B w' A (h.frNo f) hf
  have HN : Hid ((∀ n ∈ topL s A, n.length ≤ 1000) ∧ (topL s A).length ≤ 1000) := ⟨topL_num s A hf, topL_len s A⟩
  have HL : Hid (∀ k, FX F x k → k < w.heap.size) := h.ix.lt
  have HX : Hid (¬ F x) := by obtain ⟨ax, h1⟩ := h.ix; exact h1.ne
  generalize topL s A = L at *
  generalize topErr A = er at *
  clear h hf
  unfold opV
  go_enter Tryz.func12, Tryz.ntmps12
  go_wp2_with first
    | (go_at_call 40; refine (HQ.out _ (((Fr.refl _ _).alloc _).alloc _)).mono ?_; rintro e w1 ⟨v, rfl, ho, h1, f1, hnil⟩
       have hb1 : w1.heap[w.heap.size + 1]? = some (.cells #[.int .i64 0, .int .i64 0, .int .i64 0, .string (str [])] 40) := f1.heap (by have := heap_alloc_new (w.alloc (.cells #[.int .i64 6, .int .i64 A, .int .i64 Bb, .int .i64 C, .string (str S), .string (str T)] 37)) (.cells #[.int .i64 0, .int .i64 0, .int .i64 0, .string (str [])] 40); simp only [World.size_alloc] at this; exact this) (fun e => by have := HL.out _ e; omega)
       have HO : Hid (w1.ownsRow ((w.alloc (.cells #[.int .i64 6, .int .i64 A, .int .i64 Bb, .int .i64 C, .string (str S), .string (str T)] 37)).alloc (.cells #[.int .i64 0, .int .i64 0, .int .i64 0, .string (str [])] 40)).heap.size 9 1 v L.length (L.map vStr) ∧ (L = [] → v = .slice none 0 0) ∧ MX w1 F x b s ∧ Fr (FX F x) w w1) := ⟨ho, hnil, h1, (((Fr.refl _ w).alloc _).alloc _).trans f1⟩
       clear ho hnil f1 h1)
    | (go_at_call 29; refine (lawWords_any v L er _ w1 HO.out.1 HO.out.2.1 HN.out.1 HN.out.2).mono ?_; rintro e w2 ⟨rfl, f2⟩
       have hb2 : w2.heap[w.heap.size + 1]? = some (.cells #[.int .i64 0, .int .i64 0, .int .i64 0, .string (str [])] 40) := f2.heap hb1 (fun e => by have := own_ge HO.out.1 e; simp at this; omega)
       have q0 := cell_of_heap hb2 0
       have q1 := cell_of_heap hb2 1
       have q2 := cell_of_heap hb2 2
       have q3 := cell_of_heap hb2 3
       have fz := frozen_of_heap hb2
       have hac := ans_cells hb2
       have HS : Hid (MX w2 (fun k => (F k ∨ ((w.alloc (.cells #[.int .i64 6, .int .i64 A, .int .i64 Bb, .int .i64 C, .string (str S), .string (str T)] 37)).alloc (.cells #[.int .i64 0, .int .i64 0, .int .i64 0, .string (str [])] 40)).heap.size ≤ k) ∧ k < w2.heap.size) x b s ∧ Fr (FX F x) w w2) := by
         have hx := HL.out x (.inr rfl)
         refine ⟨mx_grow (HO.out.2.2.1.fr f2 (fun k hk e => by have h9 := own_ge HO.out.1 e; simp at h9; have h8 := HL.out k hk; omega)) HX.out (by simp; omega), HO.out.2.2.2.trans' f2 (fun i hi e => by have h9 := own_ge HO.out.1 e; simp at h9; omega)⟩
       clear f2
       unfold ansV)
  refine bodyPost_ret (v := ansV er L.length (strs L)) (by simp [results, Tryz.results12, go_sem, ansV, hac]) rfl ⟨rfl, ?_⟩
  exact mdo_end HS.out.1 (by simp) HL.out HX.out HS.out.2 (((((Fr.refl (fun k => k = w.heap.size + 1) w2).setCell (p := ⟨w.heap.size + 1, 0, none⟩) (.inr rfl) _).setCell (p := ⟨w.heap.size + 1, 1, none⟩) (.inr rfl) _).setCell (p := ⟨w.heap.size + 1, 2, none⟩) (.inr rfl) _).setCell (p := ⟨w.heap.size + 1, 3, none⟩) (.inr rfl) _)
set_option maxHeartbeats 1000000 in
theorem mdoOther_any (k : Int) (hk : k ≠ 1 ∧ k ≠ 2 ∧ k ≠ 3 ∧ k ≠ 4 ∧ k ≠ 5 ∧ k ≠ 6 ∧ k ≠ 7 ∧ k ≠ 9 ∧ k ≠ 10) (h : MQ w F y x b s) : Calls Tryz.prog 12 #[.pointer (some ⟨y, 0, none⟩), opV k A Bb C S T] w (MDoPost w F x b ⟨0, 0, []⟩ s) := by
  have k1 : (k == 1) = false := by simp [hk]
  have k2 : (k == 2) = false := by simp [hk]
  have k3 : (k == 3) = false := by simp [hk]
  have k4 : (k == 4) = false := by simp [hk]
  have k5 : (k == 5) = false := by simp [hk]
  have k6 : (k == 6) = false := by simp [hk]
  have k7 : (k == 7) = false := by simp [hk]
  have k9 : (k == 9) = false := by simp [hk]
  have k10 : (k == 10) = false := by simp [hk]
  have HL : Hid (∀ k, FX F x k → k < w.heap.size) := h.ix.lt
  have HX : Hid (¬ F x) := by obtain ⟨ax, h1⟩ := h.ix; exact h1.ne
  have HM : Hid (∀ W, Fr No w W → MX W (NewF F w W) x b s ∧ Fr (FX F x) w W) := fun W f => ⟨mx_grow (h.ix.frNo f) HX.out (HL.out x (.inr rfl)), f.any⟩
  clear hk h
  unfold opV
  go_enter Tryz.func12, Tryz.ntmps12
  go_wp2
  refine bodyPost_ret (v := ansV 0 0 []) (by simp [results, Tryz.results12, go_sem, ansV] <;> rfl) rfl ⟨rfl, HM.out _ (((Fr.refl No w).alloc _).alloc _)⟩
end
theorem mdo_any (y x b : Nat) (F : Nat → Prop) (s : St) (B : Int) (w : World) (o : Op) (h : MQ w F y x b s) (hf : Fine s B) (hB : B < 1000000000000000000) : Calls Tryz.prog 12 #[.pointer (some ⟨y, 0, none⟩), o.v] w (MDoPost w F x b (doA s o) (doS s o)) := by
  obtain ⟨k, A, Bb, C, S, T⟩ := o
  unfold doA doS Op.v
  simp only []
  by_cases h1 : k = 1
  · subst h1; exact mdoPut_any y x b F s B w A Bb C S T h hf hB
  by_cases h2 : k = 2
  · subst h2; exact mdoDel_any y x b F s B w A Bb C S T h hf
  by_cases h3 : k = 3
  · subst h3; exact mdoDrop_any y x b F s B w A Bb C S T h hf
  by_cases h4 : k = 4
  · subst h4; exact mdoFind_any y x b F s B w A Bb C S T h hf
  by_cases h5 : k = 5
  · subst h5; exact mdoGroups_any y x b F s B w A Bb C S T h hf
  by_cases h6 : k = 6
  · subst h6; exact mdoTop_any y x b F s B w A Bb C S T h hf
  by_cases h7 : k = 7
  · subst h7; exact mdoShow_any y x b F s B w A Bb C S T h hf hB
  by_cases h9 : k = 9
  · subst h9; exact mdoLen_any y x b F s w A Bb C S T h
  by_cases h10 : k = 10
  · subst h10; exact mdoReset_any y x b F s B w A Bb C S T h hf
  rw [if_neg h1, if_neg h2, if_neg h3, if_neg h4, if_neg h5, if_neg h6, if_neg h7, if_neg h9, if_neg h10, if_neg h1, if_neg h2, if_neg h3, if_neg h10]
  exact mdoOther_any y x b F s w A Bb C S T k ⟨h1, h2, h3, h4, h5, h6, h7, h9, h10⟩ h
end Go.Proofs.Qxb6500357aGreat
