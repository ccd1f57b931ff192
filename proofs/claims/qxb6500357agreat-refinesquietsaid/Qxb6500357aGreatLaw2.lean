import Derived.Test.Qxb6500357aGreatLaw
namespace Go.Proofs.Qxb6500357aGreat
open Go.RowKit Go.Tag
set_option linter.unusedVariables false
set_option linter.unusedSimpArgs false
set_option maxRecDepth 100000
attribute [local simp] str_size
attribute [local go_sem] str_size

theorem own_cells2 {w : World} {base : Nat} {e : TypeId} {g cap n : Nat} {xs : List Value} (h : w.ownsRow base e 2 (.slice (some ⟨g, 0, none⟩) n cap) n xs) :
    base ≤ g ∧ g < w.heap.size ∧ (∀ j u, xs[j]? = some u → w.cell? ⟨g, j, none⟩ = some u) ∧ (∀ j, w.frozen? ⟨g, j, none⟩ = false) ∧
      ∀ j u, j < n * 2 → (w.setCell ⟨g, j, none⟩ u).ownsRow base e 2 (.slice (some ⟨g, 0, none⟩) n cap) n (xs.set j u) := by
  obtain ⟨h1, h2⟩ := h
  rcases h2 with ⟨hv, h0⟩ | ⟨g', cap', cur, hv, hg, hh, hnc, hcm, hsz, htk⟩
  · cases hv
  · simp only [Value.slice.injEq, Option.some.injEq, Addr.mk.injEq] at hv
    obtain ⟨⟨rfl, _⟩, _, rfl⟩ := hv
    refine ⟨hg, lt_of_heap hh, ?_, frozen_of_heap hh, ?_⟩
    · intro j u hj
      have hlt : j < xs.length := (List.getElem?_eq_some_iff.1 hj).1
      have e : cur[j]? = xs[j]? := by
        rw [← htk, List.getElem?_take, if_pos (by omega)]; simp
      rw [cell_of_heap hh, e, hj]
    · intro j u hj
      refine ⟨by simpa using h1, .inr ⟨g, cap, cur.setIfInBounds j u, rfl, hg, Go.Tag.heap_setCell_same hh j u, hnc, hcm, by simpa using hsz, ?_⟩⟩
      rw [← htk]
      apply List.ext_getElem?
      intro i
      simp only [Array.toList_setIfInBounds, List.getElem?_take, List.getElem?_set, List.length_take]
      by_cases hi : i < n * 2
      · simp only [hi, if_true]
        by_cases hji : j = i
        · subst hji
          have h3 : j < cur.size := by omega
          simp [h3]; omega
        · simp [hji]
      · simp only [hi, if_false]
        rw [if_neg (by omega)]
theorem own_at2 {w : World} {base : Nat} {e : TypeId} {v : Value} {n : Nat} {xs : List Value} (h : w.ownsRow base e 2 v n xs) (hn : 0 < n) : ∃ g cap, v = .slice (some ⟨g, 0, none⟩) n cap := by
  obtain ⟨h1, h2⟩ := h
  rcases h2 with ⟨hv, h0⟩ | ⟨g, cap, cur, hv, _⟩
  · omega
  · exact ⟨g, cap, hv⟩
theorem cells2_get (L : List (Int × Int)) (j : Nat) (p : Int × Int) (h : L[j]? = some p) : (cells2 L)[j * 2]? = some (.int .i64 p.1) ∧ (cells2 L)[j * 2 + 1]? = some (.int .i64 p.2) := by
  induction L generalizing j with
  | nil => simp at h
  | cons a L ih =>
    have e : cells2 (a :: L) = Value.int .i64 a.1 :: Value.int .i64 a.2 :: cells2 L := by simp [cells2]
    rw [e]
    cases j with
    | zero => simp at h; subst h; simp
    | succ j =>
      have := ih j (by simpa using h)
      rw [show (j + 1) * 2 = j * 2 + 2 from by omega]
      simpa using this
theorem own_slC {w : World} {base : Nat} {v : Value} {L : List (Int × Int)} (h : w.ownsRow base 101 2 v L.length (cells2 L)) : SlC w v L := by
  rcases Nat.eq_zero_or_pos L.length with h0 | h0
  · have : L = [] := List.eq_nil_of_length_eq_zero h0
    subst this
    obtain ⟨h1, h2⟩ := h
    rcases h2 with ⟨hv, _⟩ | ⟨g, cap, cur, hv, _⟩
    · exact ⟨none, 0, hv, fun j p hj => by simp at hj⟩
    · exact ⟨_, cap, hv, fun j p hj => by simp at hj⟩
  · obtain ⟨g, cap, rfl⟩ := own_at2 h h0
    refine ⟨_, cap, rfl, fun j p hj => ⟨g, 0, rfl, ?_⟩⟩
    have hc := (own_cells2 h).2.2.1
    obtain ⟨c1, c2⟩ := cells2_get L j p hj
    rw [Nat.zero_add]
    exact ⟨hc _ _ c1, hc _ _ c2⟩
def Wipe2 (w : World) (rb base : Nat) (ty : TypeId) (g cap n : Nat) (wr : World) : Prop :=
  (∃ xs, wr.ownsRow base ty 2 (.slice (some ⟨g, 0, none⟩) n cap) n xs) ∧ wr.heap[rb]? = some (.cells #[.int .i64 0, .int .i64 0, .int .i64 0, .string (str [])] 40) ∧ Fr (fun k => k = g) w wr
theorem wipe2_one {w wr : World} {rb base : Nat} {ty : TypeId} {g cap n j : Nat} (h : Wipe2 w rb base ty g cap n wr) (hr : g ≠ rb) (hj : j < n * 2) (u : Value) : Wipe2 w rb base ty g cap n (wr.setCell ⟨g, j, none⟩ u) := by
  obtain ⟨⟨xs, h1⟩, h2, h3⟩ := h
  refine ⟨⟨_, (own_cells2 h1).2.2.2.2 j u hj⟩, ?_, h3.setCell (p := ⟨g, j, none⟩) (.inr rfl) u⟩
  have := (Fr.refl (fun k => k = g) wr).setCell (p := ⟨g, j, none⟩) (.inr rfl) u
  exact this.heap h2 (Ne.symm hr)
theorem wipe2_step {w wr : World} {rb base : Nat} {ty : TypeId} {g cap n j : Nat} (h : Wipe2 w rb base ty g cap n wr) (hr : g ≠ rb) (hj : j < n) (u u' : Value) : Wipe2 w rb base ty g cap n ((wr.setCell ⟨g, j * 2, none⟩ u).setCell ⟨g, j * 2 + 1, none⟩ u') :=
  wipe2_one (wipe2_one h hr (by omega) u) hr (by omega) u'
theorem wipe2_cell {w wr : World} {rb base : Nat} {ty : TypeId} {g cap n j : Nat} (h : Wipe2 w rb base ty g cap n wr) (hj : j < n) : ∃ u u', wr.cell? ⟨g, j * 2, none⟩ = some u ∧ wr.cell? ⟨g, j * 2 + 1, none⟩ = some u' ∧ ∀ i, wr.frozen? ⟨g, i, none⟩ = false := by
  obtain ⟨⟨xs, h1⟩, h2, h3⟩ := h
  have hl := h1.1
  exact ⟨xs[j * 2]'(by omega), xs[j * 2 + 1]'(by omega), (own_cells2 h1).2.2.1 _ _ (List.getElem?_eq_getElem _), (own_cells2 h1).2.2.1 _ _ (List.getElem?_eq_getElem _), (own_cells2 h1).2.2.2.1⟩

set_option maxHeartbeats 1000000 in
theorem lawPairs_nil (er : Int) (w : World) : Calls Tryz.prog 27 #[.slice none 0 0, .int .i64 er] w (AnsPost w (.slice none 0 0) er 0 []) := by
  have hnq := fun w a n c => run_neq_slice_nil_any (P := Tryz.prog) w 59 101 a n c 0 0 Tryz.underlying59
  have HC : Hid (∀ w', Calls Tryz.prog 59 #[.slice none 0 0] w' fun e w'' => e = .returned (.string (str [])) ∧ Fr No w' w'') := fun w' => counts_any (.slice none 0 0) [] w' (own_slC (L := []) (own_nil w' 0 101 2)) (by simp) (by simp)
  go_enter Tryz.func27, Tryz.ntmps27
  go_wp2_with (go_at_call 59; refine (HC.out _).mono ?_; rintro e w1 ⟨rfl, f1⟩
               have hb1 : w1.heap[w.heap.size]? = _ := f1.heap (heap_alloc_new w _) (fun h => h)
               have q0 := cell_of_heap hb1 0
               have q1 := cell_of_heap hb1 1
               have q2 := cell_of_heap hb1 2
               have q3 := cell_of_heap hb1 3
               have fz := frozen_of_heap hb1
               have hac := ans_cells hb1
               clear hb1)
  refine wp_loop_rounds 1 ?_
  rw [rounds_succ]
  go_wp2
  refine bodyPost_ret (v := ansV er 0 []) (by simp [results, Tryz.results27, go_sem, ansV, hac]) rfl ⟨rfl, ?_⟩
  have f0 : Fr (fun k => (Value.slice none 0 0).ownBlock = some k) w w1 := ((Fr.refl _ w).alloc _).trans' f1 (fun _ _ h => h.elim)
  repeat (first | exact f0 | refine Fr.setCell ?_ (.inl (Nat.le_refl _)) _)

set_option maxHeartbeats 1000000 in
theorem lawPairs_any (v : Value) (L : List (Int × Int)) (er : Int) (base : Nat) (w : World) (h : w.ownsRow base 101 2 v L.length (cells2 L)) (hnil : L = [] → v = .slice none 0 0) (hL : ∀ n ∈ L, (0 ≤ n.1 ∧ n.1 < 1000000000000000000) ∧ (0 ≤ n.2 ∧ n.2 < 1000000000000000000)) (hl : L.length ≤ 1000) : Calls Tryz.prog 27 #[v, .int .i64 er] w (AnsPost w v er L.length (counts L)) := by
  by_cases hLe : L = []
  · subst hLe
    rw [hnil rfl]; exact lawPairs_nil er w
  · have hpos : 0 < L.length := List.length_pos_iff.2 hLe
    obtain ⟨g, cap, rfl⟩ := own_at2 h hpos
    have hnq := fun w a n c => run_neq_slice_nil_any (P := Tryz.prog) w 59 101 a n c 0 0 Tryz.underlying59
    have HC : Hid (∀ w', Fr No w w' → Calls Tryz.prog 59 #[.slice (some ⟨g, 0, none⟩) L.length cap] w' fun e w'' => e = .returned (.string (str (counts L))) ∧ Fr No w' w'') := fun w' f => counts_any _ L w' (own_slC (own_fr h f (fun _ _ h => h))) hL hl
    have HW : Hid (∀ w1, Fr No (w.alloc (.cells #[.int .i64 0, .int .i64 0, .int .i64 0, .string (str [])] 40)) w1 → Wipe2 w1 w.heap.size base 101 g cap L.length w1) := fun w1 f =>
      ⟨⟨_, own_fr h (((Fr.refl No w).alloc _).trans f) (fun _ _ h => h)⟩, f.heap (heap_alloc_new w _) (fun h => h), Fr.refl _ _⟩
    have hgw : g < w.heap.size := (own_cells2 h).2.1
    obtain ⟨n, hn⟩ : ∃ n, L.length = n := ⟨_, rfl⟩
    rw [hn] at hpos hl HC HW ⊢
    have hn0 : ((n : Int) == 0) = false := by simp; omega
    clear h hnil hL hLe hn
    go_enter Tryz.func27, Tryz.ntmps27
    go_wp2_with (go_at_call 59; refine (HC.out _ ((Fr.refl _ _).alloc _)).mono ?_; rintro e w1 ⟨rfl, f1⟩
                 have HI : Hid (Wipe2 w1 w.heap.size base 101 g cap n w1 ∧ Fr No w w1) := ⟨HW.out w1 f1, ((Fr.refl No w).alloc _).trans f1⟩
                 clear f1)
    go_loopw [6] (fun i wr => ∃ j : Nat, j ≤ n ∧ i = .int .i64 j ∧ Wipe2 w1 w.heap.size base 101 g cap n wr) (fun i _ => n - (intOf i).toNat)
    case atStart => exact ⟨0, Nat.zero_le _, rfl, HI.out.1⟩
    case round =>
      obtain ⟨j, hj, rfl, hI⟩ := hrel
      by_cases hlt : j < n
      · obtain ⟨u0, u1, hcu, hcu1, hfu⟩ := wipe2_cell hI hlt
        have HK : Hid (∀ u u', Wipe2 w1 w.heap.size base 101 g cap n ((wr.setCell ⟨g, j * 2, none⟩ u).setCell ⟨g, j * 2 + 1, none⟩ u')) := fun u u' => wipe2_step hI (by omega) hlt u u'
        clear hI
        go_wp2
        go_roundw
        case rel => exact ⟨j + 1, by omega, by go_num, HK.out _ _⟩
        case measure => simp [intOf]; omega
      · have q0 := cell_of_heap hI.2.1 0
        have q1 := cell_of_heap hI.2.1 1
        have q2 := cell_of_heap hI.2.1 2
        have q3 := cell_of_heap hI.2.1 3
        have fz := frozen_of_heap hI.2.1
        have hac := ans_cells hI.2.1
        have HF : Hid (Fr (fun k => (Value.slice (some ⟨g, 0, none⟩) n cap).ownBlock = some k) w wr) := (HI.out.2.any.trans (hI.2.2.mono (fun k _ e => by rw [e]; rfl)))
        clear hI
        go_wp2
        refine bodyPost_ret (v := ansV er n (counts L)) (by simp [results, Tryz.results27, go_sem, ansV, hac]) rfl ⟨rfl, ?_⟩
        have f0 := HF.out
        repeat (first | exact f0 | refine Fr.setCell ?_ (.inl (Nat.le_refl _)) _)

end Go.Proofs.Qxb6500357aGreat
