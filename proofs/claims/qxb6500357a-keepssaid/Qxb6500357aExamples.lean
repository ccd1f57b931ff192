import Derived.Test.Qxb6500357aExam
namespace Go.Proofs.Qxb6500357a
open Go.RowKit Go.Tag
set_option linter.unusedVariables false
set_option linter.unusedSimpArgs false
set_option maxRecDepth 100000
attribute [local simp] str_size
attribute [local go_sem] str_size
attribute [local simp] str_toList
attribute [local go_sem] str_toList

/-- The tower's face y holds s; all of it is younger than w0. -/
def ES (w0 w : World) (y x : Nat) (s : St) : Prop := ∃ F : Nat → Prop, QAt w F y x s ∧ ¬ F y ∧ (∀ k, F k → w0.heap.size ≤ k) ∧ Fr No w0 w
theorem ES.pure {w0 w w' : World} {y x : Nat} {s : St} (h : ES w0 w y x s) (f : Fr No w w') : ES w0 w' y x s := by
  obtain ⟨F, h1, h2, h3, h4⟩ := h
  exact ⟨F, ⟨f.heap h1.1 (fun h => h), h1.2.frNo f⟩, h2, h3, h4.trans f⟩
theorem es_put {w0 w : World} {y x : Nat} {s : St} {B : Int} (h : ES w0 w y x s) (hf : Fine s B) (hB : B < 1000000000000000000) (id g : Int) (t : List UInt8) :
    Calls Try.prog 10 #[.pointer (some ⟨y, 0, none⟩), .int .i64 id, .int .i64 g, .string (str t)] w fun e w' => e = .returned (.int .i64 (s.putErr id g t)) ∧ ES w0 w' y x (s.putR id g t) := by
  obtain ⟨F, h1, h2, h3, h4⟩ := h
  refine (qPut_any y x F s B w id g t h1 hf hB).mono ?_
  rintro e w' ⟨rfl, hb, hfr⟩
  have hy := lt_of_heap h1.1
  have hs := h4.size
  refine ⟨rfl, _, ⟨hfr.heap h1.1 h2, hb⟩, ?_, ?_, h4.trans' hfr (fun k hk e => by have := h3 k e; omega)⟩
  · rintro (e | e)
    · exact h2 e
    · have := e.1; omega
  · rintro k (e | e)
    · exact h3 k e
    · have := e.1; omega
theorem es_show {w0 w : World} {y x : Nat} {s : St} {B : Int} (h : ES w0 w y x s) (hf : Fine s B) (hB : B < 1000000000000000000) :
    Calls Try.prog 9 #[.pointer (some ⟨y, 0, none⟩)] w fun e w' => e = .returned (.string (str (ixShow s))) ∧ ES w0 w' y x s := by
  obtain ⟨F, h1, h2, h3, h4⟩ := h
  refine (qShow_any y x F s B w h1 hf hB).mono ?_
  rintro e w' ⟨rfl, f⟩
  exact ⟨rfl, ES.pure ⟨F, h1, h2, h3, h4⟩ f⟩

def tabc : List UInt8 := [97, 98, 32, 99]
def tcd : List UInt8 := [99, 32, 100]
def s1 : St := St.new.put 3 ⟨1, tabc⟩
def s2 : St := s1.put 1 ⟨0, tcd⟩
def s3 : St := s2.put 2 ⟨1, [99]⟩
theorem fine0 : Fine St.new 0 := by
  refine ⟨?_, by decide, ?_, fun i _ => rfl⟩
  · intro i d h; simp [St.new] at h
  · intro i; exact ⟨Int.le_refl 0, Int.le_refl 0⟩
theorem fine1 : Fine s1 1 := fine0.put (d := ⟨1, tabc⟩) (by decide) (by decide) (by decide) (by decide) (by decide)
theorem fine2 : Fine s2 2 := fine1.put (d := ⟨0, tcd⟩) (by decide) (by decide) (by decide) (by decide) (fun h => absurd h.2 (by decide))
theorem fine3 : Fine s3 3 := fine2.put (d := ⟨1, [99]⟩) (by decide) (by decide) (by decide) (by decide) (fun h => absurd h.2 (by decide))
theorem put1 : St.new.putErr 3 1 tabc = 0 ∧ St.new.putR 3 1 tabc = s1 := by
  have e : St.new.putErr 3 1 tabc = 0 := by kernel_rfl
  exact ⟨e, putR_0 e⟩
theorem show0 : ixShow St.new = [124, 48, 32, 48, 32, 48, 32, 48, 32, 48, 32, 48, 32, 48, 32, 48, 32, 48, 32, 124, 48, 32, 48, 32, 48, 32, 35] := by kernel_rfl
theorem show1 : ixShow s1 = [51, 47, 49, 47, 97, 98, 32, 99, 59, 124, 48, 32, 48, 32, 49, 32, 48, 32, 48, 32, 48, 32, 48, 32, 48, 32, 48, 32, 124, 48, 32, 49, 32, 48, 32, 35, 97, 98, 61, 51, 32, 64, 48, 32, 49, 32, 48, 32, 59, 99, 61, 51, 32, 64, 48, 32, 49, 32, 48, 32, 59] := by kernel_rfl
theorem put2 : s1.putErr 1 0 tcd = 0 ∧ s1.putR 1 0 tcd = s2 := by
  have e : s1.putErr 1 0 tcd = 0 := by kernel_rfl
  exact ⟨e, putR_0 e⟩
theorem put3 : s2.putErr 2 1 [99] = 0 ∧ s2.putR 2 1 [99] = s3 := by
  have e : s2.putErr 2 1 [99] = 0 := by kernel_rfl
  exact ⟨e, putR_0 e⟩
theorem es_find {w0 w : World} {y x : Nat} {s : St} {B : Int} (h : ES w0 w y x s) (hf : Fine s B) (A : Int) (S T : List UInt8) :
    Calls Try.prog 11 #[.pointer (some ⟨y, 0, none⟩), opV 4 A 0 0 S T] w fun e w' => e = .returned (ansV (findErr A S T) (findL s A S T).length (ints (findL s A S T))) ∧ Fr No w w' := by
  obtain ⟨F, h1, h2, h3, h4⟩ := h
  exact doFind_any y x F s B w A 0 0 S T h1 hf
theorem es_groups {w0 w : World} {y x : Nat} {s : St} {B : Int} (h : ES w0 w y x s) (hf : Fine s B) (S : List UInt8) :
    Calls Try.prog 11 #[.pointer (some ⟨y, 0, none⟩), opV 5 0 0 0 S []] w fun e w' => e = .returned (ansV (groupsErr S) (groupsL s S).length (counts (groupsL s S))) ∧ Fr No w w' := by
  obtain ⟨F, h1, h2, h3, h4⟩ := h
  exact doGroups_any y x F s B w 0 0 0 S [] h1 hf
theorem es_top {w0 w : World} {y x : Nat} {s : St} {B : Int} (h : ES w0 w y x s) (hf : Fine s B) (A : Int) :
    Calls Try.prog 11 #[.pointer (some ⟨y, 0, none⟩), opV 6 A 0 0 [] []] w fun e w' => e = .returned (ansV (topErr A) (topL s A).length (strs (topL s A))) ∧ Fr No w w' := by
  obtain ⟨F, h1, h2, h3, h4⟩ := h
  exact doTop_any y x F s B w A 0 0 [] [] h1 hf
theorem ask1 : ints (findL s3 3 [99] [100]) = [50, 32, 51, 32] := by kernel_rfl
theorem ask2 : counts (groupsL s3 [99]) = [48, 58, 49, 32, 49, 58, 50, 32] := by kernel_rfl
theorem ask3 : strs (topL s3 2) = [99, 32, 97, 98, 32] := by kernel_rfl

set_option maxHeartbeats 1000000 in
theorem examples_walk (w : World) : Calls Try.prog 5 #[] w fun e w' => e = .returned (.bool true) ∧ Fr No w w' := by
  have H9a : Hid (∀ w1 y x, ES w w1 y x St.new → Calls Try.prog 9 #[.pointer (some ⟨y, 0, none⟩)] w1 fun e w' => e = .returned (.string (str [124, 48, 32, 48, 32, 48, 32, 48, 32, 48, 32, 48, 32, 48, 32, 48, 32, 48, 32, 124, 48, 32, 48, 32, 48, 32, 35])) ∧ ES w w' y x St.new) := fun w1 y x h => by
    have := es_show h fine0 (by decide); rw [show0] at this; exact this
  have H10a : Hid (∀ w1 y x, ES w w1 y x St.new → Calls Try.prog 10 #[.pointer (some ⟨y, 0, none⟩), .int .i64 3, .int .i64 1, .string (str tabc)] w1 fun e w' => e = .returned (.int .i64 0) ∧ ES w w' y x s1) := fun w1 y x h => by
    have := es_put h fine0 (by decide) 3 1 tabc; rw [put1.1, put1.2] at this; exact this
  have H9b : Hid (∀ w1 y x, ES w w1 y x s1 → Calls Try.prog 9 #[.pointer (some ⟨y, 0, none⟩)] w1 fun e w' => e = .returned (.string (str [51, 47, 49, 47, 97, 98, 32, 99, 59, 124, 48, 32, 48, 32, 49, 32, 48, 32, 48, 32, 48, 32, 48, 32, 48, 32, 48, 32, 124, 48, 32, 49, 32, 48, 32, 35, 97, 98, 61, 51, 32, 64, 48, 32, 49, 32, 48, 32, 59, 99, 61, 51, 32, 64, 48, 32, 49, 32, 48, 32, 59])) ∧ ES w w' y x s1) := fun w1 y x h => by
    have := es_show h fine1 (by decide); rw [show1] at this; exact this
  have H10b : Hid (∀ w1 y x, ES w w1 y x s1 → Calls Try.prog 10 #[.pointer (some ⟨y, 0, none⟩), .int .i64 1, .int .i64 0, .string (str tcd)] w1 fun e w' => e = .returned (.int .i64 0) ∧ ES w w' y x s2) := fun w1 y x h => by
    have := es_put h fine1 (by decide) 1 0 tcd; rw [put2.1, put2.2] at this; exact this
  have H10c : Hid (∀ w1 y x, ES w w1 y x s2 → Calls Try.prog 10 #[.pointer (some ⟨y, 0, none⟩), .int .i64 2, .int .i64 1, .string (str [99])] w1 fun e w' => e = .returned (.int .i64 0) ∧ ES w w' y x s3) := fun w1 y x h => by
    have := es_put h fine2 (by decide) 2 1 [99]; rw [put3.1, put3.2] at this; exact this
  have H11a : Hid (∀ w1 y x, ES w w1 y x s3 → Calls Try.prog 11 #[.pointer (some ⟨y, 0, none⟩), .agg #[.int .i64 4, .int .i64 3, .int .i64 0, .int .i64 0, .string (str [99]), .string (str [100])]] w1 fun e w' => ∃ er n, e = .returned (.agg #[.int .i64 er, .int .i64 n, .int .i64 0, .string (str [50, 32, 51, 32])]) ∧ Fr No w1 w') := fun w1 y x h => by
    have := es_find h fine3 3 [99] [100]; rw [ask1] at this
    exact this.mono fun e w' ⟨h1, h2⟩ => ⟨_, _, h1, h2⟩
  have H11b : Hid (∀ w1 y x, ES w w1 y x s3 → Calls Try.prog 11 #[.pointer (some ⟨y, 0, none⟩), .agg #[.int .i64 5, .int .i64 0, .int .i64 0, .int .i64 0, .string (str [99]), .string (str [])]] w1 fun e w' => ∃ er n, e = .returned (.agg #[.int .i64 er, .int .i64 n, .int .i64 0, .string (str [48, 58, 49, 32, 49, 58, 50, 32])]) ∧ Fr No w1 w') := fun w1 y x h => by
    have := es_groups h fine3 [99]; rw [ask2] at this
    exact this.mono fun e w' ⟨h1, h2⟩ => ⟨_, _, h1, h2⟩
  have H11c : Hid (∀ w1 y x, ES w w1 y x s3 → Calls Try.prog 11 #[.pointer (some ⟨y, 0, none⟩), .agg #[.int .i64 6, .int .i64 2, .int .i64 0, .int .i64 0, .string (str []), .string (str [])]] w1 fun e w' => ∃ er n, e = .returned (.agg #[.int .i64 er, .int .i64 n, .int .i64 0, .string (str [99, 32, 97, 98, 32])]) ∧ Fr No w1 w') := fun w1 y x h => by
    have := es_top h fine3 2; rw [ask3] at this
    exact this.mono fun e w' ⟨h1, h2⟩ => ⟨_, _, h1, h2⟩
  go_enter Try.func5, Try.ntmps5
  go_wp2_with first
    | (go_at_call 8; refine (towerNew_any _).mono ?_; rintro e w1 ⟨z, y, x, b, F, rfl, hT, hF, hz, hy, f1⟩
       have c1 : w1.cell? ⟨z, 2, none⟩ = some (.pointer (some ⟨y, 0, none⟩)) := by rw [cell_of_heap hT.root]; rfl
       have E1 : Hid (ES w w1 y x St.new) := ⟨F, hT.q, hT.ne.2, fun k hk => (hF k hk).1, f1⟩
       clear hT hF f1)
    | (go_at_call 9
       first
         | (refine (H9b.out _ y x E3.out).mono ?_; rintro e w4 ⟨rfl, hE4⟩
            have E4 : Hid (ES w w4 y x s1) := hE4
            clear hE4)
         | (refine (H9a.out _ y x E1.out).mono ?_; rintro e w2 ⟨rfl, hE2⟩
            have E2 : Hid (ES w w2 y x St.new) := hE2
            clear hE2))
    | (go_at_call 10
       first
         | (refine (H10c.out _ y x E5.out).mono ?_; rintro e w6 ⟨rfl, hE6⟩
            have E6 : Hid (ES w w6 y x s3) := hE6
            clear hE6)
         | (refine (H10b.out _ y x E4.out).mono ?_; rintro e w5 ⟨rfl, hE5⟩
            have E5 : Hid (ES w w5 y x s2) := hE5
            clear hE5)
         | (refine (H10a.out _ y x E2.out).mono ?_; rintro e w3 ⟨rfl, hE3⟩
            have E3 : Hid (ES w w3 y x s1) := hE3
            clear hE3))
    | (go_at_call 11
       first
         | (refine (H11c.out _ y x E8.out).mono ?_; rintro e w9 ⟨er9, n9, rfl, f9⟩
            have m7 : w9.cell? ⟨w7.heap.size, 3, none⟩ = some (.string (str [50, 32, 51, 32])) := frNo_cell (((Fr.refl No w8).alloc _).trans f9) m7
            have m8 : w9.cell? ⟨w8.heap.size, 3, none⟩ = some (.string (str [48, 58, 49, 32, 49, 58, 50, 32])) := frNo_cell f9 (by rw [cell_of_heap (heap_alloc_new w8 _)]; rfl)
            have z9 := f9.size
            simp only [World.size_alloc] at z9
            have z8 : w8.heap.size < w9.heap.size := by omega
            have z7 : w7.heap.size < w9.heap.size := by omega
            have HF9 : Hid (Fr No w w9) := (E8.out.elim fun F h => h.2.2.2).trans f9
            clear f9)
         | (refine (H11b.out _ y x E7.out).mono ?_; rintro e w8 ⟨er8, n8, rfl, f8⟩
            have E8 : Hid (ES w (w8.alloc (.cells #[.int .i64 er8, .int .i64 n8, .int .i64 0, .string (str [48, 58, 49, 32, 49, 58, 50, 32])] 36)) y x s3) := (E7.out.pure f8).pure ((Fr.refl _ _).alloc _)
            have m7 : w8.cell? ⟨w7.heap.size, 3, none⟩ = some (.string (str [50, 32, 51, 32])) := frNo_cell f8 (by rw [cell_of_heap (heap_alloc_new w7 _)]; rfl)
            have y7 := f8.size
            simp only [World.size_alloc] at y7
            clear f8)
         | (refine (H11a.out _ y x E6.out).mono ?_; rintro e w7 ⟨er7, n7, rfl, f7⟩
            have E7 : Hid (ES w (w7.alloc (.cells #[.int .i64 er7, .int .i64 n7, .int .i64 0, .string (str [50, 32, 51, 32])] 36)) y x s3) := (E6.out.pure f7).pure ((Fr.refl _ _).alloc _)
            clear f7))
  go_ret
  exact ⟨rfl, HF9.out.alloc _⟩
end Go.Proofs.Qxb6500357a
