import Derived.Test.Qxb6500357aGreatNew
namespace Go.Proofs.Qxb6500357aGreat
open Go.RowKit Go.Tag
variable {st0 : Nat}
set_option linter.unusedVariables false
set_option linter.unusedSimpArgs false
set_option maxRecDepth 100000
attribute [local simp] str_size
attribute [local go_sem] str_size

def opV (k a b c : Int) (s t : List UInt8) : Value := .agg #[.int .i64 k, .int .i64 a, .int .i64 b, .int .i64 c, .string (str s), .string (str t)]
/-- What a question leaves. -/
def AskPost (w : World) (er n : Int) (t : List UInt8) (e : Ending) (w' : World) : Prop := e = .returned (ansV er n t) ∧ Fr No w w'

theorem findL_num (s : St) (op : Int) (a b : Word) : ∀ n ∈ findL s op a b, 0 ≤ n ∧ n < 1000000000000000000 := by
  intro n hn
  unfold findL at hn; split at hn
  · have := (mem_idsAll n).1 (List.mem_filter.1 hn).1; omega
  · simp at hn
theorem findL_len (s : St) (op : Int) (a b : Word) : (findL s op a b).length ≤ 1000 := by
  unfold findL; split
  · have := setL_len (findSet s op a b); omega
  · simp
theorem groupsL_num (s : St) (u : Word) : ∀ n ∈ groupsL s u, (0 ≤ n.1 ∧ n.1 < 1000000000000000000) ∧ (0 ≤ n.2 ∧ n.2 < 1000000000000000000) := by
  intro n hn
  unfold groupsL at hn; split at hn
  · simp at hn
  · have := groupsTo_mem s u 3 n hn; omega
theorem groupsL_len (s : St) (u : Word) : (groupsL s u).length ≤ 1000 := by
  unfold groupsL; split
  · simp
  · have := groupsTo_len s u 3; omega
theorem topL_len (s : St) (k : Int) : (topL s k).length ≤ 1000 := by
  unfold topL; split
  · simp; omega
  · simp
theorem topL_num (s : St) (k : Int) {B : Int} (hf : Fine s B) : ∀ n ∈ topL s k, n.length ≤ 1000 := by
  intro n hn
  unfold topL at hn; split at hn
  · have h1 := List.mem_of_mem_take hn
    unfold rankL at h1
    rw [rankAll_mem] at h1
    have := word_short hf n (by simpa using h1)
    omega
  · simp at hn
theorem fr_past {w w1 w2 : World} {v : Value} {base : Nat} {e : TypeId} {size n : Nat} {xs : List Value} (f1 : Fr No w w1) (ho : w1.ownsRow base e size v n xs) (hb : w.heap.size ≤ base) (f2 : Fr (fun k => v.ownBlock = some k) w1 w2) : Fr No w w2 :=
  f1.trans' f2 (fun i hi e => by have := own_ge ho e; omega)

section
variable (y x : Nat) (F : Nat → Prop) (s : St) (B : Int) (w : World)
set_option maxHeartbeats 1000000 in
theorem doFind_any (A Bb C : Int) (S T : List UInt8) (h : QAt st0 w F y x s) (hf : Fine s B) : Calls Tryz.prog 10 #[.pointer (some ⟨y, 0, none⟩), opV 4 A Bb C S T] w (AskPost w (findErr A S T) (findL s A S T).length (ints (findL s A S T))) := by
  have HQ : Hid (∀ w', Fr No w w' → Calls Tryz.prog 24 #[.pointer (some ⟨y, 0, none⟩), .int .i64 A, .string (str S), .string (str T)] w' (IntsErr w' (findL s A S T) (findErr A S T))) := fun w' f => find_any y x F s B A S T w' ⟨f.heap h.1 (fun h => h), h.2.frNo f⟩ hf
  have HN : Hid ((∀ n ∈ findL s A S T, 0 ≤ n ∧ n < 1000000000000000000) ∧ (findL s A S T).length ≤ 1000) := ⟨findL_num s A S T, findL_len s A S T⟩
  generalize findL s A S T = L at *
  generalize findErr A S T = er at *
  clear h hf
  unfold opV
  go_enter Tryz.func10, Tryz.ntmps10
  go_wp2_with first
    | (go_at_call 24; refine (HQ.out _ (((Fr.refl _ _).alloc _).alloc _)).mono ?_; rintro e w1 ⟨v, rfl, ho, f1, hnil⟩
       have hb1 : w1.heap[w.heap.size + 1]? = some (.cells #[.int .i64 0, .int .i64 0, .int .i64 0, .string (str [])] 40) := f1.heap (by have := heap_alloc_new (w.alloc (.cells #[.int .i64 4, .int .i64 A, .int .i64 Bb, .int .i64 C, .string (str S), .string (str T)] 37)) (.cells #[.int .i64 0, .int .i64 0, .int .i64 0, .string (str [])] 40); simp only [World.size_alloc] at this; exact this) (fun h => h)
       have HO : Hid (w1.ownsRow ((w.alloc (.cells #[.int .i64 4, .int .i64 A, .int .i64 Bb, .int .i64 C, .string (str S), .string (str T)] 37)).alloc (.cells #[.int .i64 0, .int .i64 0, .int .i64 0, .string (str [])] 40)).heap.size 3 1 v L.length (L.map (Value.int .i64)) ∧ (L = [] → v = .slice none 0 0) ∧ Fr No w w1) := ⟨ho, hnil, (((Fr.refl No w).alloc _).alloc _).trans f1⟩
       clear ho hnil f1)
    | (go_at_call 25; refine (lawIds_any v L er _ w1 HO.out.1 HO.out.2.1 HN.out.1 HN.out.2).mono ?_; rintro e w2 ⟨rfl, f2⟩
       have hb2 : w2.heap[w.heap.size + 1]? = some (.cells #[.int .i64 0, .int .i64 0, .int .i64 0, .string (str [])] 40) := f2.heap hb1 (fun e => by have := own_ge HO.out.1 e; simp at this; omega)
       have q0 := cell_of_heap hb2 0
       have q1 := cell_of_heap hb2 1
       have q2 := cell_of_heap hb2 2
       have q3 := cell_of_heap hb2 3
       have fz := frozen_of_heap hb2
       have hac := ans_cells hb2
       unfold ansV)
  refine bodyPost_ret (v := ansV er L.length (ints L)) (by simp [results, Tryz.results10, go_sem, ansV, hac]) rfl ⟨rfl, ?_⟩
  have f0 : Fr No w w2 := fr_past HO.out.2.2 HO.out.1 (by simp; omega) f2
  repeat (first | exact f0 | refine Fr.setCell ?_ (.inl (Nat.le_succ _)) _)
set_option maxHeartbeats 1000000 in
theorem doGroups_any (A Bb C : Int) (S T : List UInt8) (h : QAt st0 w F y x s) (hf : Fine s B) : Calls Tryz.prog 10 #[.pointer (some ⟨y, 0, none⟩), opV 5 A Bb C S T] w (AskPost w (groupsErr S) (groupsL s S).length (counts (groupsL s S))) := by
  have HQ : Hid (∀ w', Fr No w w' → Calls Tryz.prog 26 #[.pointer (some ⟨y, 0, none⟩), .string (str S)] w' (CountsErr w' (groupsL s S) (groupsErr S))) := fun w' f => groups_any y x F s B S w' ⟨f.heap h.1 (fun h => h), h.2.frNo f⟩ hf
  have HN : Hid ((∀ n ∈ groupsL s S, (0 ≤ n.1 ∧ n.1 < 1000000000000000000) ∧ (0 ≤ n.2 ∧ n.2 < 1000000000000000000)) ∧ (groupsL s S).length ≤ 1000) := ⟨groupsL_num s S, groupsL_len s S⟩
  generalize groupsL s S = L at *
  generalize groupsErr S = er at *
  clear h hf
  unfold opV
  go_enter Tryz.func10, Tryz.ntmps10
  go_wp2_with first
    | (go_at_call 26; refine (HQ.out _ (((Fr.refl _ _).alloc _).alloc _)).mono ?_; rintro e w1 ⟨v, rfl, ho, f1, hnil⟩
       have hb1 : w1.heap[w.heap.size + 1]? = some (.cells #[.int .i64 0, .int .i64 0, .int .i64 0, .string (str [])] 40) := f1.heap (by have := heap_alloc_new (w.alloc (.cells #[.int .i64 5, .int .i64 A, .int .i64 Bb, .int .i64 C, .string (str S), .string (str T)] 37)) (.cells #[.int .i64 0, .int .i64 0, .int .i64 0, .string (str [])] 40); simp only [World.size_alloc] at this; exact this) (fun h => h)
       have HO : Hid (w1.ownsRow ((w.alloc (.cells #[.int .i64 5, .int .i64 A, .int .i64 Bb, .int .i64 C, .string (str S), .string (str T)] 37)).alloc (.cells #[.int .i64 0, .int .i64 0, .int .i64 0, .string (str [])] 40)).heap.size 101 2 v L.length (cells2 L) ∧ (L = [] → v = .slice none 0 0) ∧ Fr No w w1) := ⟨ho, hnil, (((Fr.refl No w).alloc _).alloc _).trans f1⟩
       clear ho hnil f1)
    | (go_at_call 27; refine (lawPairs_any v L er _ w1 HO.out.1 HO.out.2.1 HN.out.1 HN.out.2).mono ?_; rintro e w2 ⟨rfl, f2⟩
       have hb2 : w2.heap[w.heap.size + 1]? = some (.cells #[.int .i64 0, .int .i64 0, .int .i64 0, .string (str [])] 40) := f2.heap hb1 (fun e => by have := own_ge HO.out.1 e; simp at this; omega)
       have q0 := cell_of_heap hb2 0
       have q1 := cell_of_heap hb2 1
       have q2 := cell_of_heap hb2 2
       have q3 := cell_of_heap hb2 3
       have fz := frozen_of_heap hb2
       have hac := ans_cells hb2
       unfold ansV)
  refine bodyPost_ret (v := ansV er L.length (counts L)) (by simp [results, Tryz.results10, go_sem, ansV, hac]) rfl ⟨rfl, ?_⟩
  have f0 : Fr No w w2 := fr_past HO.out.2.2 HO.out.1 (by simp; omega) f2
  repeat (first | exact f0 | refine Fr.setCell ?_ (.inl (Nat.le_succ _)) _)
set_option maxHeartbeats 1000000 in
theorem doTop_any (A Bb C : Int) (S T : List UInt8) (h : QAt st0 w F y x s) (hf : Fine s B) : Calls Tryz.prog 10 #[.pointer (some ⟨y, 0, none⟩), opV 6 A Bb C S T] w (AskPost w (topErr A) (topL s A).length (strs (topL s A))) := by
  have HQ : Hid (∀ w', Fr No w w' → Calls Tryz.prog 28 #[.pointer (some ⟨y, 0, none⟩), .int .i64 A] w' (StrsErr w' (topL s A) (topErr A))) := fun w' f => top_any y x F s B A w' ⟨f.heap h.1 (fun h => h), h.2.frNo f⟩ hf
  have HN : Hid ((∀ n ∈ topL s A, n.length ≤ 1000) ∧ (topL s A).length ≤ 1000) := ⟨topL_num s A hf, topL_len s A⟩
  generalize topL s A = L at *
  generalize topErr A = er at *
  clear h hf
  unfold opV
  go_enter Tryz.func10, Tryz.ntmps10
  go_wp2_with first
    | (go_at_call 28; refine (HQ.out _ (((Fr.refl _ _).alloc _).alloc _)).mono ?_; rintro e w1 ⟨v, rfl, ho, f1, hnil⟩
       have hb1 : w1.heap[w.heap.size + 1]? = some (.cells #[.int .i64 0, .int .i64 0, .int .i64 0, .string (str [])] 40) := f1.heap (by have := heap_alloc_new (w.alloc (.cells #[.int .i64 6, .int .i64 A, .int .i64 Bb, .int .i64 C, .string (str S), .string (str T)] 37)) (.cells #[.int .i64 0, .int .i64 0, .int .i64 0, .string (str [])] 40); simp only [World.size_alloc] at this; exact this) (fun h => h)
       have HO : Hid (w1.ownsRow ((w.alloc (.cells #[.int .i64 6, .int .i64 A, .int .i64 Bb, .int .i64 C, .string (str S), .string (str T)] 37)).alloc (.cells #[.int .i64 0, .int .i64 0, .int .i64 0, .string (str [])] 40)).heap.size 9 1 v L.length (L.map vStr) ∧ (L = [] → v = .slice none 0 0) ∧ Fr No w w1) := ⟨ho, hnil, (((Fr.refl No w).alloc _).alloc _).trans f1⟩
       clear ho hnil f1)
    | (go_at_call 29; refine (lawWords_any v L er _ w1 HO.out.1 HO.out.2.1 HN.out.1 HN.out.2).mono ?_; rintro e w2 ⟨rfl, f2⟩
       have hb2 : w2.heap[w.heap.size + 1]? = some (.cells #[.int .i64 0, .int .i64 0, .int .i64 0, .string (str [])] 40) := f2.heap hb1 (fun e => by have := own_ge HO.out.1 e; simp at this; omega)
       have q0 := cell_of_heap hb2 0
       have q1 := cell_of_heap hb2 1
       have q2 := cell_of_heap hb2 2
       have q3 := cell_of_heap hb2 3
       have fz := frozen_of_heap hb2
       have hac := ans_cells hb2
       unfold ansV)
  refine bodyPost_ret (v := ansV er L.length (strs L)) (by simp [results, Tryz.results10, go_sem, ansV, hac]) rfl ⟨rfl, ?_⟩
  have f0 : Fr No w w2 := fr_past HO.out.2.2 HO.out.1 (by simp; omega) f2
  repeat (first | exact f0 | refine Fr.setCell ?_ (.inl (Nat.le_succ _)) _)
end
end Go.Proofs.Qxb6500357aGreat
