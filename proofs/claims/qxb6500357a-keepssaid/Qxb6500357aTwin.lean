import Derived.Test.Qxb6500357aLow
namespace Go.Proofs.Qxb6500357a
open Go.RowKit Go.Tag
set_option linter.unusedVariables false
set_option linter.unusedSimpArgs false
set_option maxRecDepth 100000
attribute [local simp] str_size
attribute [local go_sem] str_size

theorem twin_end {w w1 wf : World} {F : Nat → Prop} {x : Nat} {s' : St} (h1 : Both w1 (fun k => (F k ∧ k < w.heap.size) ∨ (w.heap.size + 3 ≤ k ∧ k < w1.heap.size)) x s') (f1 : Fr (fun k => F k ∧ k < w.heap.size) w w1) (f2 : Fr (fun k => k = w.heap.size + 1 + 1) w1 wf) :
    Both wf (fun k => F k ∨ Since w wf k) x s' ∧ Fr F w wf := by
  have a1 := f1.size
  have a2 := f2.size
  refine ⟨(h1.fr f2 ?_).mono ?_, ?_⟩
  · rintro k (hk | hk) e
    · have := hk.2; omega
    · omega
  · rintro k (hk | hk)
    · exact .inl hk.1
    · exact .inr ⟨by omega, by omega⟩
  · exact (f1.mono (fun k _ h => h.1)).trans' f2 (fun k hk e => by omega)
section
variable (x : Nat) (F : Nat → Prop) (s : St) (B : Int) (w : World) (A Bb C : Int) (S T : List UInt8)
set_option maxHeartbeats 1000000 in
theorem twinPut_any (h : Both w F x s) (hf : Fine s B) (hB : B < 1000000000000000000) : Calls Try.prog 24 #[belV x, opV 1 A Bb C S T] w (DoPost w F x ⟨s.putErr A Bb S, 0, []⟩ (s.putR A Bb S)) := by
  have HQ : Hid (∀ w', Fr No w w' → Calls Try.prog 31 #[.pointer (some ⟨x, 0, none⟩), .int .i64 A, .int .i64 Bb, .string (str S)] w' fun e w'' => e = .returned (.int .i64 (s.putErr A Bb S)) ∧ Both w'' (fun k => (F k ∧ k < w.heap.size) ∨ Since w' w'' k) x (s.putR A Bb S) ∧ Fr (fun k => F k ∧ k < w.heap.size) w' w'') := fun w' f =>
    ixPut_any x _ s B A Bb S w' ((both_bound h).frNo f) hf hB
  generalize (s.putErr A Bb S) = er at *
  generalize (s.putR A Bb S) = s' at *
  clear h hf
  unfold opV belV
  go_enter Try.func24, Try.ntmps24
  go_wp2_with (go_at_call 31; refine (HQ.out _ ((((Fr.refl _ _).alloc _).alloc _).alloc _)).mono ?_; rintro e w1 ⟨rfl, h1, f1⟩
               have hb1 : w1.heap[w.heap.size + 1 + 1]? = some (.cells #[.int .i64 0, .int .i64 0, .int .i64 0, .string (str [])] 36) := f1.heap (by have := heap_alloc_new ((w.alloc (.cells #[.pointer (some ⟨x, 0, none⟩)] 59)).alloc (.cells #[.int .i64 1, .int .i64 A, .int .i64 Bb, .int .i64 C, .string (str S), .string (str T)] 39)) (.cells #[.int .i64 0, .int .i64 0, .int .i64 0, .string (str [])] 36); simp only [World.size_alloc] at this; exact this) (fun h => by have := h.2; omega)
               have q0 := cell_of_heap hb1 0
               have q1 := cell_of_heap hb1 1
               have q2 := cell_of_heap hb1 2
               have q3 := cell_of_heap hb1 3
               have fz := frozen_of_heap hb1
               have hac := ans_cells hb1
               have HS : Hid (Both w1 (fun k => (F k ∧ k < w.heap.size) ∨ (w.heap.size + 3 ≤ k ∧ k < w1.heap.size)) x s' ∧ Fr (fun k => F k ∧ k < w.heap.size) w w1) := ⟨h1.mono (fun k hk => hk.imp_right (fun e => ⟨by have := e.1; simp only [World.size_alloc] at this; omega, e.2⟩)), ((((Fr.refl _ w).alloc _).alloc _).alloc _).trans f1⟩
               clear h1 f1)
  refine bodyPost_ret (v := ansV er 0 []) (by simp [results, Try.results24, go_sem, ansV, hac] <;> rfl) rfl ⟨rfl, twin_end HS.out.1 HS.out.2 ?_⟩
  exact ((((Fr.refl (fun k => k = w.heap.size + 1 + 1) w1).setCell (p := ⟨w.heap.size + 1 + 1, 0, none⟩) (.inr rfl) _).setCell (p := ⟨w.heap.size + 1 + 1, 1, none⟩) (.inr rfl) _).setCell (p := ⟨w.heap.size + 1 + 1, 2, none⟩) (.inr rfl) _).setCell (p := ⟨w.heap.size + 1 + 1, 3, none⟩) (.inr rfl) _
set_option maxHeartbeats 1000000 in
theorem twinDel_any (h : Both w F x s) (hf : Fine s B) : Calls Try.prog 24 #[belV x, opV 2 A Bb C S T] w (DoPost w F x ⟨s.getErr A, 0, []⟩ (s.delR A)) := by
  have HQ : Hid (∀ w', Fr No w w' → Calls Try.prog 51 #[.pointer (some ⟨x, 0, none⟩), .int .i64 A] w' fun e w'' => e = .returned (.int .i64 (s.getErr A)) ∧ Both w'' (fun k => (F k ∧ k < w.heap.size) ∨ Since w' w'' k) x (s.delR A) ∧ Fr (fun k => F k ∧ k < w.heap.size) w' w'') := fun w' f =>
    ixDel_any x _ s B A w' ((both_bound h).frNo f) hf
  generalize (s.getErr A) = er at *
  generalize (s.delR A) = s' at *
  clear h hf
  unfold opV belV
  go_enter Try.func24, Try.ntmps24
  go_wp2_with (go_at_call 51; refine (HQ.out _ ((((Fr.refl _ _).alloc _).alloc _).alloc _)).mono ?_; rintro e w1 ⟨rfl, h1, f1⟩
               have hb1 : w1.heap[w.heap.size + 1 + 1]? = some (.cells #[.int .i64 0, .int .i64 0, .int .i64 0, .string (str [])] 36) := f1.heap (by have := heap_alloc_new ((w.alloc (.cells #[.pointer (some ⟨x, 0, none⟩)] 59)).alloc (.cells #[.int .i64 2, .int .i64 A, .int .i64 Bb, .int .i64 C, .string (str S), .string (str T)] 39)) (.cells #[.int .i64 0, .int .i64 0, .int .i64 0, .string (str [])] 36); simp only [World.size_alloc] at this; exact this) (fun h => by have := h.2; omega)
               have q0 := cell_of_heap hb1 0
               have q1 := cell_of_heap hb1 1
               have q2 := cell_of_heap hb1 2
               have q3 := cell_of_heap hb1 3
               have fz := frozen_of_heap hb1
               have hac := ans_cells hb1
               have HS : Hid (Both w1 (fun k => (F k ∧ k < w.heap.size) ∨ (w.heap.size + 3 ≤ k ∧ k < w1.heap.size)) x s' ∧ Fr (fun k => F k ∧ k < w.heap.size) w w1) := ⟨h1.mono (fun k hk => hk.imp_right (fun e => ⟨by have := e.1; simp only [World.size_alloc] at this; omega, e.2⟩)), ((((Fr.refl _ w).alloc _).alloc _).alloc _).trans f1⟩
               clear h1 f1)
  refine bodyPost_ret (v := ansV er 0 []) (by simp [results, Try.results24, go_sem, ansV, hac] <;> rfl) rfl ⟨rfl, twin_end HS.out.1 HS.out.2 ?_⟩
  exact ((((Fr.refl (fun k => k = w.heap.size + 1 + 1) w1).setCell (p := ⟨w.heap.size + 1 + 1, 0, none⟩) (.inr rfl) _).setCell (p := ⟨w.heap.size + 1 + 1, 1, none⟩) (.inr rfl) _).setCell (p := ⟨w.heap.size + 1 + 1, 2, none⟩) (.inr rfl) _).setCell (p := ⟨w.heap.size + 1 + 1, 3, none⟩) (.inr rfl) _
set_option maxHeartbeats 1000000 in
theorem twinDrop_any (h : Both w F x s) (hf : Fine s B) : Calls Try.prog 24 #[belV x, opV 3 A Bb C S T] w (DoPost w F x ⟨0, s.cnt A, []⟩ (s.drop A)) := by
  have HQ : Hid (∀ w', Fr No w w' → Calls Try.prog 52 #[.pointer (some ⟨x, 0, none⟩), .int .i64 A] w' fun e w'' => e = .returned (.int .i64 (s.cnt A : Int)) ∧ Both w'' (fun k => (F k ∧ k < w.heap.size) ∨ Since w' w'' k) x (s.drop A) ∧ Fr (fun k => F k ∧ k < w.heap.size) w' w'') := fun w' f =>
    ixDrop_any x _ s B A w' ((both_bound h).frNo f) hf
  generalize (s.cnt A : Int) = er at *
  generalize (s.drop A) = s' at *
  clear h hf
  unfold opV belV
  go_enter Try.func24, Try.ntmps24
  go_wp2_with (go_at_call 52; refine (HQ.out _ ((((Fr.refl _ _).alloc _).alloc _).alloc _)).mono ?_; rintro e w1 ⟨rfl, h1, f1⟩
               have hb1 : w1.heap[w.heap.size + 1 + 1]? = some (.cells #[.int .i64 0, .int .i64 0, .int .i64 0, .string (str [])] 36) := f1.heap (by have := heap_alloc_new ((w.alloc (.cells #[.pointer (some ⟨x, 0, none⟩)] 59)).alloc (.cells #[.int .i64 3, .int .i64 A, .int .i64 Bb, .int .i64 C, .string (str S), .string (str T)] 39)) (.cells #[.int .i64 0, .int .i64 0, .int .i64 0, .string (str [])] 36); simp only [World.size_alloc] at this; exact this) (fun h => by have := h.2; omega)
               have q0 := cell_of_heap hb1 0
               have q1 := cell_of_heap hb1 1
               have q2 := cell_of_heap hb1 2
               have q3 := cell_of_heap hb1 3
               have fz := frozen_of_heap hb1
               have hac := ans_cells hb1
               have HS : Hid (Both w1 (fun k => (F k ∧ k < w.heap.size) ∨ (w.heap.size + 3 ≤ k ∧ k < w1.heap.size)) x s' ∧ Fr (fun k => F k ∧ k < w.heap.size) w w1) := ⟨h1.mono (fun k hk => hk.imp_right (fun e => ⟨by have := e.1; simp only [World.size_alloc] at this; omega, e.2⟩)), ((((Fr.refl _ w).alloc _).alloc _).alloc _).trans f1⟩
               clear h1 f1)
  refine bodyPost_ret (v := ansV 0 er []) (by simp [results, Try.results24, go_sem, ansV, hac] <;> rfl) rfl ⟨rfl, twin_end HS.out.1 HS.out.2 ?_⟩
  exact ((((Fr.refl (fun k => k = w.heap.size + 1 + 1) w1).setCell (p := ⟨w.heap.size + 1 + 1, 0, none⟩) (.inr rfl) _).setCell (p := ⟨w.heap.size + 1 + 1, 1, none⟩) (.inr rfl) _).setCell (p := ⟨w.heap.size + 1 + 1, 2, none⟩) (.inr rfl) _).setCell (p := ⟨w.heap.size + 1 + 1, 3, none⟩) (.inr rfl) _
set_option maxHeartbeats 1000000 in
theorem twinReset_any (h : Both w F x s) (hf : Fine s B) : Calls Try.prog 24 #[belV x, opV 10 A Bb C S T] w (DoPost w F x ⟨0, s.ids.length, []⟩ (s.reset)) := by
  have HQ : Hid (∀ w', Fr No w w' → Calls Try.prog 53 #[.pointer (some ⟨x, 0, none⟩)] w' fun e w'' => e = .returned (.int .i64 (s.ids.length : Int)) ∧ Both w'' (fun k => (F k ∧ k < w.heap.size) ∨ Since w' w'' k) x (s.reset) ∧ Fr (fun k => F k ∧ k < w.heap.size) w' w'') := fun w' f =>
    ixReset_any x _ s B w' ((both_bound h).frNo f) hf
  generalize (s.ids.length : Int) = er at *
  generalize (s.reset) = s' at *
  clear h hf
  unfold opV belV
  go_enter Try.func24, Try.ntmps24
  go_wp2_with (go_at_call 53; refine (HQ.out _ ((((Fr.refl _ _).alloc _).alloc _).alloc _)).mono ?_; rintro e w1 ⟨rfl, h1, f1⟩
               have hb1 : w1.heap[w.heap.size + 1 + 1]? = some (.cells #[.int .i64 0, .int .i64 0, .int .i64 0, .string (str [])] 36) := f1.heap (by have := heap_alloc_new ((w.alloc (.cells #[.pointer (some ⟨x, 0, none⟩)] 59)).alloc (.cells #[.int .i64 10, .int .i64 A, .int .i64 Bb, .int .i64 C, .string (str S), .string (str T)] 39)) (.cells #[.int .i64 0, .int .i64 0, .int .i64 0, .string (str [])] 36); simp only [World.size_alloc] at this; exact this) (fun h => by have := h.2; omega)
               have q0 := cell_of_heap hb1 0
               have q1 := cell_of_heap hb1 1
               have q2 := cell_of_heap hb1 2
               have q3 := cell_of_heap hb1 3
               have fz := frozen_of_heap hb1
               have hac := ans_cells hb1
               have HS : Hid (Both w1 (fun k => (F k ∧ k < w.heap.size) ∨ (w.heap.size + 3 ≤ k ∧ k < w1.heap.size)) x s' ∧ Fr (fun k => F k ∧ k < w.heap.size) w w1) := ⟨h1.mono (fun k hk => hk.imp_right (fun e => ⟨by have := e.1; simp only [World.size_alloc] at this; omega, e.2⟩)), ((((Fr.refl _ w).alloc _).alloc _).alloc _).trans f1⟩
               clear h1 f1)
  refine bodyPost_ret (v := ansV 0 er []) (by simp [results, Try.results24, go_sem, ansV, hac] <;> rfl) rfl ⟨rfl, twin_end HS.out.1 HS.out.2 ?_⟩
  exact ((((Fr.refl (fun k => k = w.heap.size + 1 + 1) w1).setCell (p := ⟨w.heap.size + 1 + 1, 0, none⟩) (.inr rfl) _).setCell (p := ⟨w.heap.size + 1 + 1, 1, none⟩) (.inr rfl) _).setCell (p := ⟨w.heap.size + 1 + 1, 2, none⟩) (.inr rfl) _).setCell (p := ⟨w.heap.size + 1 + 1, 3, none⟩) (.inr rfl) _
end
theorem twin_any (x : Nat) (F : Nat → Prop) (s : St) (B : Int) (w : World) (o : Op) (hk : o.k = 1 ∨ o.k = 2 ∨ o.k = 3 ∨ o.k = 10) (h : Both w F x s) (hf : Fine s B) (hB : B < 1000000000000000000) : Calls Try.prog 24 #[belV x, o.v] w (DoPost w F x (doA s o) (doS s o)) := by
  obtain ⟨k, A, Bb, C, S, T⟩ := o
  simp only at hk
  unfold doA doS Op.v
  simp only []
  rcases hk with rfl | rfl | rfl | rfl
  · exact twinPut_any x F s B w A Bb C S T h hf hB
  · exact twinDel_any x F s B w A Bb C S T h hf
  · exact twinDrop_any x F s B w A Bb C S T h hf
  · exact twinReset_any x F s B w A Bb C S T h hf

theorem ground_any (w : World) : Calls Try.prog 23 #[] w fun e w' => ∃ x F, e = .returned (belV x) ∧ Both w' F x St.new ∧ (∀ k, F k → w.heap.size ≤ k ∧ k < w'.heap.size) ∧ Fr No w w' := by
  have HZ : Hid (∀ w', Fr No w w' → Calls Try.prog 27 #[] w' fun e w'' => ∃ b bd br bg p, e = .returned (.pointer (some ⟨b, 0, none⟩)) ∧ StoreAt w'' (Since w' w'') b St.new bd br bg p ∧ Fr No w' w'') := fun w' _ => storeNew_any w'
  go_enter Try.func23, Try.ntmps23
  go_wp2_with first
    | (go_at_call 27; refine (storeNew_any _).mono ?_; rintro e w1 ⟨b, bd, br, bg, p, rfl, hS, f1⟩
       have hb1 : w1.heap[w.heap.size]? = some (.cells #[.pointer none] 59) := f1.heap (heap_alloc_new w _) (fun h => h))
    | (go_at_call 28; refine (ixNew_any _ _).mono ?_; rintro e w2 ⟨x, bi, bb, q, rfl, hX, f2⟩
       have hb2 : w2.heap[w.heap.size]? = some (.cells #[.pointer none] 59) := f2.heap hb1 (fun h => h)
       have q0 := cell_of_heap hb2 0
       have fz := frozen_of_heap hb2)
  have h1 := f1.size
  have h2 := f2.size
  simp only [World.size_alloc] at h1
  have f3 : Fr (fun k => k = w.heap.size) w2 (w2.setCell ⟨w.heap.size, 0, none⟩ (.pointer (some ⟨x, 0, none⟩))) := (Fr.refl (fun k => k = w.heap.size) w2).setCell (p := ⟨w.heap.size, 0, none⟩) (.inr rfl) _
  refine bodyPost_ret (v := belV x) (by simp [results, Try.results23, go_sem, belV, q0] <;> rfl) rfl ⟨x, fun k => Since (w.alloc (.cells #[.pointer none] 59)) w1 k ∨ Since w1 w2 k, rfl, ?_, ?_, ?_⟩
  · refine ⟨b, bd, br, bg, p, bi, bb, q, Since (w.alloc (.cells #[.pointer none] 59)) w1, Since w1 w2, ⟨hS.fr ((f2.mono (fun _ _ h => h.elim)).trans f3) ?_, hX.fr f3 ?_, ?_, ?_, ?_⟩, fun k hk => hk⟩
    · intro k hk e; have := hk.1; simp only [World.size_alloc] at this; omega
    · intro k hk e; have := hk.1; omega
    · intro k hk e; have := hk.2; have := e.1; omega
    · intro k hk; have := hk.2; simp; omega
    · intro k hk; have := hk.2; simp; omega
  · rintro k (e | e)
    · exact ⟨by have := e.1; simp only [World.size_alloc] at this; omega, by have := e.2; simp; omega⟩
    · exact ⟨by have := e.1; omega, by have := e.2; simp; omega⟩
  · exact ((((Fr.refl No w).alloc _).trans f1).trans f2).setCell (p := ⟨w.heap.size, 0, none⟩) (.inl (Nat.le_refl _)) _
end Go.Proofs.Qxb6500357a
