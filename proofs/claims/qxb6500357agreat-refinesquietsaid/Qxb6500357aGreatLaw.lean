import Derived.Test.Qxb6500357aGreatTop
namespace Go.Proofs.Qxb6500357aGreat
open Go.RowKit Go.Tag
set_option linter.unusedVariables false
set_option linter.unusedSimpArgs false
set_option maxRecDepth 100000
attribute [local simp] str_size
attribute [local go_sem] str_size

def ansV (er n : Int) (t : List UInt8) : Value := .agg #[.int .i64 er, .int .i64 n, .int .i64 0, .string (str t)]
/-- What Ids, Words, Pairs leave: the answer; the list v overwritten. -/
def AnsPost (w : World) (v : Value) (er n : Int) (t : List UInt8) (e : Ending) (w' : World) : Prop := e = .returned (ansV er n t) ∧ Fr (fun k => v.ownBlock = some k) w w'
theorem ans_cells {w : World} {rb : Nat} {a b c d : Value} (h : w.heap[rb]? = some (.cells #[a, b, c, d] 40)) (e0 e1 e2 e3 : Value) :
    ((((w.setCell ⟨rb, 0, none⟩ e0).setCell ⟨rb, 1, none⟩ e1).setCell ⟨rb, 2, none⟩ e2).setCell ⟨rb, 3, none⟩ e3).cell? ⟨rb, 0, none⟩ = some e0 ∧
    ((((w.setCell ⟨rb, 0, none⟩ e0).setCell ⟨rb, 1, none⟩ e1).setCell ⟨rb, 2, none⟩ e2).setCell ⟨rb, 3, none⟩ e3).cell? ⟨rb, 1, none⟩ = some e1 ∧
    ((((w.setCell ⟨rb, 0, none⟩ e0).setCell ⟨rb, 1, none⟩ e1).setCell ⟨rb, 2, none⟩ e2).setCell ⟨rb, 3, none⟩ e3).cell? ⟨rb, 2, none⟩ = some e2 ∧
    ((((w.setCell ⟨rb, 0, none⟩ e0).setCell ⟨rb, 1, none⟩ e1).setCell ⟨rb, 2, none⟩ e2).setCell ⟨rb, 3, none⟩ e3).cell? ⟨rb, 3, none⟩ = some e3 := by
  have h4 := Go.Tag.heap_setCell_same (Go.Tag.heap_setCell_same (Go.Tag.heap_setCell_same (Go.Tag.heap_setCell_same h 0 e0) 1 e1) 2 e2) 3 e3
  refine ⟨?_, ?_, ?_, ?_⟩ <;> (rw [cell_of_heap h4]; rfl)
/-- The loop's state. -/
def WipeI (w : World) (rb base : Nat) (ty : TypeId) (g cap n : Nat) (wr : World) : Prop :=
  (∃ xs, wr.ownsRow base ty 1 (.slice (some ⟨g, 0, none⟩) n cap) n xs) ∧ wr.heap[rb]? = some (.cells #[.int .i64 0, .int .i64 0, .int .i64 0, .string (str [])] 40) ∧ Fr (fun k => k = g) w wr
theorem wipe_step {w wr : World} {rb base : Nat} {ty : TypeId} {g cap n j : Nat} (h : WipeI w rb base ty g cap n wr) (hr : g ≠ rb) (hj : j < n) (u : Value) : WipeI w rb base ty g cap n (wr.setCell ⟨g, j, none⟩ u) := by
  obtain ⟨⟨xs, h1⟩, h2, h3⟩ := h
  refine ⟨⟨_, (own_cells h1).2.2.2.2 j u hj⟩, ?_, h3.setCell (p := ⟨g, j, none⟩) (.inr rfl) u⟩
  have := (Fr.refl (fun k => k = g) wr).setCell (p := ⟨g, j, none⟩) (.inr rfl) u
  exact this.heap h2 (Ne.symm hr)
theorem wipe_cell {w wr : World} {rb base : Nat} {ty : TypeId} {g cap n j : Nat} (h : WipeI w rb base ty g cap n wr) (hj : j < n) : ∃ u, wr.cell? ⟨g, j, none⟩ = some u ∧ wr.frozen? ⟨g, j, none⟩ = false := by
  obtain ⟨⟨xs, h1⟩, h2, h3⟩ := h
  have hl : j < xs.length := by have := h1.1; omega
  exact ⟨xs[j], (own_cells h1).2.2.1 j _ (List.getElem?_eq_getElem hl), (own_cells h1).2.2.2.1 j⟩

set_option maxHeartbeats 1000000 in
theorem lawIds_nil (er : Int) (w : World) : Calls Tryz.prog 25 #[.slice none 0 0, .int .i64 er] w (AnsPost w (.slice none 0 0) er 0 []) := by
  have hnq := fun w a n c => run_neq_slice_nil_any (P := Tryz.prog) w 55 3 a n c 0 0 Tryz.underlying55
  have HC : Hid (∀ w', Calls Tryz.prog 46 #[.slice none 0 0] w' fun e w'' => e = .returned (.string (str [])) ∧ Fr No w' w'') := fun w' => ints_any (.slice none 0 0) [] w' (own_sl (own_nil w' 0 3 1)) (by simp) (by simp)
  go_enter Tryz.func25, Tryz.ntmps25
  go_wp2_with (go_at_call 46; refine (HC.out _).mono ?_; rintro e w1 ⟨rfl, f1⟩
               have hb1 : w1.heap[w.heap.size]? = _ := f1.heap (heap_alloc_new w _) (fun h => h)
               have q0 := cell_of_heap hb1 0
               have q1 := cell_of_heap hb1 1
               have q2 := cell_of_heap hb1 2
               have q3 := cell_of_heap hb1 3
               have fz := frozen_of_heap hb1
               have hac := ans_cells hb1
               clear hb1)
  refine wp_loop_rounds 1 ?_
  rw [rounds_succ]
  go_wp2
  refine bodyPost_ret (v := ansV er 0 []) (by simp [results, Tryz.results25, go_sem, ansV, hac]) rfl ⟨rfl, ?_⟩
  have f0 : Fr (fun k => (Value.slice none 0 0).ownBlock = some k) w w1 := ((Fr.refl _ w).alloc _).trans' f1 (fun _ _ h => h.elim)
  repeat (first | exact f0 | refine Fr.setCell ?_ (.inl (Nat.le_refl _)) _)

set_option maxHeartbeats 1000000 in
theorem lawIds_any (v : Value) (L : List Int) (er : Int) (base : Nat) (w : World) (h : w.ownsRow base 3 1 v L.length (L.map (Value.int .i64))) (hnil : L = [] → v = .slice none 0 0) (hL : ∀ n ∈ L, 0 ≤ n ∧ n < 1000000000000000000) (hl : L.length ≤ 1000) : Calls Tryz.prog 25 #[v, .int .i64 er] w (AnsPost w v er L.length (ints L)) := by
  by_cases hLe : L = []
  · subst hLe
    rw [hnil rfl]; exact lawIds_nil er w
  · have hpos : 0 < L.length := List.length_pos_iff.2 hLe
    obtain ⟨g, cap, rfl, -⟩ := own_at h hpos
    have hnq := fun w a n c => run_neq_slice_nil_any (P := Tryz.prog) w 55 3 a n c 0 0 Tryz.underlying55
    have HC : Hid (∀ w', Fr No w w' → Calls Tryz.prog 46 #[.slice (some ⟨g, 0, none⟩) L.length cap] w' fun e w'' => e = .returned (.string (str (ints L))) ∧ Fr No w' w'') := fun w' f => ints_any _ L w' (own_sl (own_fr h f (fun _ _ h => h))) hL hl
    have HW : Hid (∀ w1, Fr No (w.alloc (.cells #[.int .i64 0, .int .i64 0, .int .i64 0, .string (str [])] 40)) w1 → WipeI w1 w.heap.size base 3 g cap L.length w1) := fun w1 f =>
      ⟨⟨_, own_fr h (((Fr.refl No w).alloc _).trans f) (fun _ _ h => h)⟩, f.heap (heap_alloc_new w _) (fun h => h), Fr.refl _ _⟩
    have hgw : g < w.heap.size := (own_cells h).2.1
    obtain ⟨n, hn⟩ : ∃ n, L.length = n := ⟨_, rfl⟩
    rw [hn] at hpos hl HC HW ⊢
    have hn0 : ((n : Int) == 0) = false := by simp; omega
    clear h hnil hL hLe hn
    go_enter Tryz.func25, Tryz.ntmps25
    go_wp2_with (go_at_call 46; refine (HC.out _ ((Fr.refl _ _).alloc _)).mono ?_; rintro e w1 ⟨rfl, f1⟩
                 have HI : Hid (WipeI w1 w.heap.size base 3 g cap n w1 ∧ Fr No w w1) := ⟨HW.out w1 f1, ((Fr.refl No w).alloc _).trans f1⟩
                 clear f1)
    go_loopw [6] (fun i wr => ∃ j : Nat, j ≤ n ∧ i = .int .i64 j ∧ WipeI w1 w.heap.size base 3 g cap n wr) (fun i _ => n - (intOf i).toNat)
    case atStart => exact ⟨0, Nat.zero_le _, rfl, HI.out.1⟩
    case round =>
      obtain ⟨j, hj, rfl, hI⟩ := hrel
      by_cases hlt : j < n
      · obtain ⟨u, hcu, hfu⟩ := wipe_cell hI hlt
        have HK : Hid (∀ u, WipeI w1 w.heap.size base 3 g cap n (wr.setCell ⟨g, j, none⟩ u)) := fun u => wipe_step hI (by omega) hlt u
        clear hI
        go_wp2
        go_roundw
        case rel => exact ⟨j + 1, by omega, by go_num, HK.out _⟩
        case measure => simp [intOf]; omega
      · have q0 := cell_of_heap hI.2.1 0
        have q1 := cell_of_heap hI.2.1 1
        have q2 := cell_of_heap hI.2.1 2
        have q3 := cell_of_heap hI.2.1 3
        have fz := frozen_of_heap hI.2.1
        have hac := ans_cells hI.2.1
        have HF : Hid (Fr (fun k => (Value.slice (some ⟨g, 0, none⟩) n cap).ownBlock = some k) w wr) := (HI.out.2.any.trans (hI.2.2.mono (fun k _ e => by rw [e]; rfl)))
        clear hI
        go_wp2
        refine bodyPost_ret (v := ansV er n (ints L)) (by simp [results, Tryz.results25, go_sem, ansV, hac]) rfl ⟨rfl, ?_⟩
        have f0 := HF.out
        repeat (first | exact f0 | refine Fr.setCell ?_ (.inl (Nat.le_refl _)) _)

set_option maxHeartbeats 1000000 in
theorem lawWords_nil (er : Int) (w : World) : Calls Tryz.prog 29 #[.slice none 0 0, .int .i64 er] w (AnsPost w (.slice none 0 0) er 0 []) := by
  have hnq := fun w a n c => run_neq_slice_nil_any (P := Tryz.prog) w 63 9 a n c 0 0 Tryz.underlying63
  have HC : Hid (∀ w', Calls Tryz.prog 62 #[.slice none 0 0] w' fun e w'' => e = .returned (.string (str [])) ∧ Fr No w' w'') := fun w' => strs_any (.slice none 0 0) [] w' (own_sl (own_nil w' 0 9 1)) (by simp) (by simp)
  go_enter Tryz.func29, Tryz.ntmps29
  go_wp2_with (go_at_call 62; refine (HC.out _).mono ?_; rintro e w1 ⟨rfl, f1⟩
               have hb1 : w1.heap[w.heap.size]? = _ := f1.heap (heap_alloc_new w _) (fun h => h)
               have q0 := cell_of_heap hb1 0
               have q1 := cell_of_heap hb1 1
               have q2 := cell_of_heap hb1 2
               have q3 := cell_of_heap hb1 3
               have fz := frozen_of_heap hb1
               have hac := ans_cells hb1
               clear hb1)
  refine wp_loop_rounds 1 ?_
  rw [rounds_succ]
  go_wp2
  refine bodyPost_ret (v := ansV er 0 []) (by simp [results, Tryz.results29, go_sem, ansV, hac]) rfl ⟨rfl, ?_⟩
  have f0 : Fr (fun k => (Value.slice none 0 0).ownBlock = some k) w w1 := ((Fr.refl _ w).alloc _).trans' f1 (fun _ _ h => h.elim)
  repeat (first | exact f0 | refine Fr.setCell ?_ (.inl (Nat.le_refl _)) _)

set_option maxHeartbeats 1000000 in
theorem lawWords_any (v : Value) (L : List Word) (er : Int) (base : Nat) (w : World) (h : w.ownsRow base 9 1 v L.length (L.map vStr)) (hnil : L = [] → v = .slice none 0 0) (hL : ∀ n ∈ L, n.length ≤ 1000) (hl : L.length ≤ 1000) : Calls Tryz.prog 29 #[v, .int .i64 er] w (AnsPost w v er L.length (strs L)) := by
  by_cases hLe : L = []
  · subst hLe
    rw [hnil rfl]; exact lawWords_nil er w
  · have hpos : 0 < L.length := List.length_pos_iff.2 hLe
    obtain ⟨g, cap, rfl, -⟩ := own_at h hpos
    have hnq := fun w a n c => run_neq_slice_nil_any (P := Tryz.prog) w 63 9 a n c 0 0 Tryz.underlying63
    have HC : Hid (∀ w', Fr No w w' → Calls Tryz.prog 62 #[.slice (some ⟨g, 0, none⟩) L.length cap] w' fun e w'' => e = .returned (.string (str (strs L))) ∧ Fr No w' w'') := fun w' f => strs_any _ L w' (own_sl (own_fr h f (fun _ _ h => h))) hL hl
    have HW : Hid (∀ w1, Fr No (w.alloc (.cells #[.int .i64 0, .int .i64 0, .int .i64 0, .string (str [])] 40)) w1 → WipeI w1 w.heap.size base 9 g cap L.length w1) := fun w1 f =>
      ⟨⟨_, own_fr h (((Fr.refl No w).alloc _).trans f) (fun _ _ h => h)⟩, f.heap (heap_alloc_new w _) (fun h => h), Fr.refl _ _⟩
    have hgw : g < w.heap.size := (own_cells h).2.1
    obtain ⟨n, hn⟩ : ∃ n, L.length = n := ⟨_, rfl⟩
    rw [hn] at hpos hl HC HW ⊢
    have hn0 : ((n : Int) == 0) = false := by simp; omega
    clear h hnil hL hLe hn
    go_enter Tryz.func29, Tryz.ntmps29
    go_wp2_with (go_at_call 62; refine (HC.out _ ((Fr.refl _ _).alloc _)).mono ?_; rintro e w1 ⟨rfl, f1⟩
                 have HI : Hid (WipeI w1 w.heap.size base 9 g cap n w1 ∧ Fr No w w1) := ⟨HW.out w1 f1, ((Fr.refl No w).alloc _).trans f1⟩
                 clear f1)
    go_loopw [6] (fun i wr => ∃ j : Nat, j ≤ n ∧ i = .int .i64 j ∧ WipeI w1 w.heap.size base 9 g cap n wr) (fun i _ => n - (intOf i).toNat)
    case atStart => exact ⟨0, Nat.zero_le _, rfl, HI.out.1⟩
    case round =>
      obtain ⟨j, hj, rfl, hI⟩ := hrel
      by_cases hlt : j < n
      · obtain ⟨u, hcu, hfu⟩ := wipe_cell hI hlt
        have HK : Hid (∀ u, WipeI w1 w.heap.size base 9 g cap n (wr.setCell ⟨g, j, none⟩ u)) := fun u => wipe_step hI (by omega) hlt u
        clear hI
        go_wp2
        go_roundw
        case rel => exact ⟨j + 1, by omega, by go_num, HK.out _⟩
        case measure => simp [intOf]; omega
      · have q0 := cell_of_heap hI.2.1 0
        have q1 := cell_of_heap hI.2.1 1
        have q2 := cell_of_heap hI.2.1 2
        have q3 := cell_of_heap hI.2.1 3
        have fz := frozen_of_heap hI.2.1
        have hac := ans_cells hI.2.1
        have HF : Hid (Fr (fun k => (Value.slice (some ⟨g, 0, none⟩) n cap).ownBlock = some k) w wr) := (HI.out.2.any.trans (hI.2.2.mono (fun k _ e => by rw [e]; rfl)))
        clear hI
        go_wp2
        refine bodyPost_ret (v := ansV er n (strs L)) (by simp [results, Tryz.results29, go_sem, ansV, hac]) rfl ⟨rfl, ?_⟩
        have f0 := HF.out
        repeat (first | exact f0 | refine Fr.setCell ?_ (.inl (Nat.le_refl _)) _)
end Go.Proofs.Qxb6500357aGreat
