import Derived.Test.Qxb6500357aIds
namespace Go.Proofs.Qxb6500357a
open Go.RowKit Go.Tag
set_option linter.unusedVariables false
set_option linter.unusedSimpArgs false
set_option maxRecDepth 100000
attribute [local simp] str_size
attribute [local go_sem] str_size

set_option maxHeartbeats 1000000 in
theorem sorted_map (bm : Nat) (f : Int → Option Value) (ks : List Int) (w : World) (h : MapFn w bm kInt f) (hs : ks.Pairwise (· < ·)) (hk : ∀ k, k ∈ ks ↔ (f k).isSome = true) (hN0 : ks.length ≤ 9) :
    Calls Try.prog 69 #[.map (some bm)] w (IntsPost w ks) := by
  have hdw := h.lt
  have hnd : ks.Nodup := pw_to hs (fun h e => by omega)
  obtain ⟨o, hrg, hR0⟩ := h.range (P := Try.prog) (t := 113) keyInt Try.underlying113 hnd hk
  have hN : ks.length ≤ 9 := hN0
  have HK : Hid ((∀ k, k ∈ ks ↔ (f k).isSome = true) ∧ ks.Pairwise (· < ·)) := ⟨hk, hs⟩
  have HP0 : Hid (IdsRel w f bm w.heap.size ks.length (.slice none 0 0) (w.alloc o)) :=
    ⟨[], _, _, ⟨hR0, List.Pairwise.nil, fun k => by cases h : f k <;> simp [h], own_nil _ _ _ _, (Fr.refl _ _).alloc _, by simp, by simp⟩, fun _ => rfl⟩
  clear hR0 h hs hk hnd hN0
  generalize hNN : ks.length = N at *
  go_enter Try.func69, Try.ntmps69
  go_wp2
  go_loopw [3] (fun v wr => IdsRel w f bm w.heap.size N v wr) (fun _ wr => toGo bm w.heap.size wr)
  case atStart => exact HP0.out
  case round =>
    obtain ⟨A, left, cnt, hG, hnil⟩ := hrel
    rcases hG.range.next (P := Try.prog) keyInt 0 with ⟨h0, hall, hnx⟩ | ⟨k, v, w1, hlk, hfk, hnx, hpos, hR1, hF1, hsz, hen⟩
    · have HF : Hid (IntsPost w ks (.returned u3) wr) := by
        have hA := hG.done (fun a h => by omega) (fun a b h h' => by omega) hall HK.out.2 HK.out.1
        subst hA
        exact ⟨u3, rfl, own_base hG.own (Nat.le_succ _), hG.fr, hnil⟩
      clear hG hall
      go_wp2
      go_ret
      exact HF.out
    · simp only [kInt] at hnx hen
      obtain ⟨i0, hi, hz0, hz1, hz2⟩ := info_parts info3
      have hnum := hG.num
      have hown : w1.ownsRow (w.heap.size + 1) 3 1 u3 A.length (A.map (Value.int .i64)) := own_fr hG.own hF1 (fun k hk e => by have := own_ge hG.own hk; omega)
      have hbig : w.heap.size + 1 ≤ w1.heap.size := by have := hG.big; omega
      have HG : Hid (GatherI w f bm w.heap.size N u3 A left cnt wr ∧ RangeFn w1 bm w.heap.size kInt f (fun j => left j && !decide (j = k)) (cnt - 1) ∧ Fr (fun i => i = w.heap.size) wr w1 ∧ left k = true ∧ f k = some v) := ⟨hG, hR1, hF1, hlk, hfk⟩
      have hm : A.length ≤ 9 := by omega
      clear hG hR1 hF1 hlk hfk hsz
      obtain ⟨m, hAm⟩ : ∃ m, A.length = m := ⟨_, rfl⟩
      rw [hAm] at hown hm hnum
      have HAm : Hid (A.length = m) := hAm
      clear hAm
      go_wp2_with (at_builtin; refine wpList_append_own_at _ rfl _ _ 47 rfl (w.heap.size + 1) 3 i0 (.int .i64 0) 1 8 Try.underlying47 hi hz0 hz1 hz2 rfl (by decide) u3 m _ rfl (hown.alloc _) ⟨w1.heap.size, 0, none⟩ 1 1 [.int .i64 k] rfl rfl (cell_one_new _ _ _) (by intro u hu; simp only [List.mem_singleton] at hu; subst hu; rfl) (by unfold maxLen; omega) (by omega) (by simp; omega) ?_
                   intro v' w2 hown' hgrow hnil' hloc
                   obtain ⟨g, cap, hv, -⟩ := own_at hown' (by omega)
                   subst hv)
      have HW : Hid (InsI w2 (w.heap.size + 1) g cap (m + 1) A m k w2 ∧ w.heap.size < g ∧ RangeFn w2 bm w.heap.size kInt f (fun j => left j && !decide (j = k)) (cnt - 1) ∧ Fr No w w2 ∧ w.heap.size + 1 ≤ w2.heap.size) := by
        have hm' := HAm.out
        obtain ⟨hg1, -⟩ := own_cells hown'
        obtain ⟨a1, a2, a3⟩ := gather_grow HG.out.1 hdw HG.out.2.1 HG.out.2.2.1 hgrow
        exact ⟨⟨by rw [← hm']; exact above_start A k, by rw [← hm', lay_end, List.map_append, hm']; exact hown', Fr.refl _ _⟩, by omega, a1, a2, a3⟩
      clear hown' hgrow hnil' hloc hown
      have hN1 : (0 : Int) ≤ m := by omega
      go_loopw [5] (fun i wr' => ∃ j : Nat, j ≤ m ∧ i = .int .i64 j ∧ InsI w2 (w.heap.size + 1) g cap (m + 1) A j k wr') (fun i _ => (intOf i).toNat)
      case atStart => exact ⟨m, Nat.le_refl _, by go_num, HW.out.1⟩
      case round =>
        obtain ⟨j, hjm, rfl, hI⟩ := hrel
        have hA := HAm.out
        obtain ⟨-, hgw, hcell, hfz, hset⟩ := own_cells hI.2.1
        have hcj : wr.cell? ⟨g, j, none⟩ = some (.int .i64 k) := hcell j _ (by rw [layAt_map, layAt_get _ _ _ (by simp; omega)])
        have hjd : (j : Int) < ((m + 1 : Nat) : Int) := by omega
        have fin : Hid (j = 0 ∨ (∃ (h : 0 < j) (h' : j - 1 < A.length), ¬ k < A[j - 1]) → ∀ n, IdsRel w f bm w.heap.size N (.slice (some ⟨g, 0, none⟩) (m + 1) cap) (wr.drewN n) ∧ toGo bm w.heap.size (wr.drewN n) < cnt) := by
          intro hend n
          have hkA : k ∉ A := fun hk => by have := ((HG.out.1.mem k).1 hk).2; rw [HG.out.2.2.2.1] at this; cases this
          have hL : (layAt A j k).length = m + 1 := by rw [layAt_len, HAm.out]
          have hs := gather_step (w3 := wr.drewN n) (S := fun i => i = g) (A' := layAt A j k) (v' := .slice (some ⟨g, 0, none⟩) (m + 1) cap) HG.out.1 hdw HG.out.2.2.2.1 HG.out.2.2.2.2 hpos HW.out.2.2.1 HW.out.2.2.2.1 HW.out.2.2.2.2 (hI.2.2.drewN n) (fun i e => by rw [e]; exact HW.out.2.1)
            (lay_sorted intlt_tr HG.out.1.sorted (by omega) hI.1 (or_to hend id fun ⟨a, b, c⟩ => ⟨a, b, by
              have : A[j - 1] ≠ k := fun e => hkA (e ▸ List.getElem_mem b)
              omega⟩)) (lay_mem A j k) (by rw [layAt_len]) (by rw [hL]; exact own_fr hI.2.1 ((Fr.refl No _).drewN n) (fun _ _ h => h))
          refine ⟨⟨_, _, _, hs.1, fun e => by rw [e] at hL; simp at hL⟩, ?_⟩
          have := hs.2; rw [HG.out.1.range.toGo] at this; exact this
        have htg := HG.out.1.range.toGo
        by_cases hj0 : j = 0
        · have H0 : Hid (j = 0) := hj0
          have hjk : decide (0 < j) = false := by simp; omega
          clear hj0 hcell hfz hset
          go_wp2
          go_quiet (fail)
          go_wp2
          go_roundw
          case rel => exact (fin.out (.inl H0.out) _).1
          case measure => rw [htg]; exact (fin.out (.inl H0.out) _).2
        · have hjk : decide (0 < j) = true := by simp; omega
          have hjp : 0 < j := by omega
          have hj1 : (1 : Int) ≤ (j : Int) := by omega
          have hk1 : j - 1 < A.length := by omega
          have hcz : wr.cell? ⟨g, j - 1, none⟩ = some (.int .i64 A[j - 1]) := hcell (j - 1) _ (by rw [layAt_map, layAt_lt _ _ _ (by simp; omega) (by omega)]; simp [hk1])
          have hjn : ((j : Int) - 1).toNat = j - 1 := by omega
          have hjn2 : (j : Int) - 1 < ((m + 1 : Nat) : Int) := by omega
          have hjn3 : (0 : Int) ≤ (j : Int) - 1 := by omega
          by_cases hyz : k < A[j - 1]
          · have hyd : decide (k < A[j - 1]) = true := by simp; omega
            have HI1 : Hid (∀ n, InsI w2 (w.heap.size + 1) g cap (m + 1) A (j - 1) k (((wr.drewN n).setCell ⟨g, j, none⟩ (.int .i64 A[j - 1])).setCell ⟨g, j - 1, none⟩ (.int .i64 k))) := fun n => by
              refine ⟨above_down hI.1 (by omega) hk1 hyz, ?_, (((hI.2.2.drewN n).setCell (p := ⟨g, j, none⟩) (.inr rfl) _).setCell (p := ⟨g, j - 1, none⟩) (.inr rfl) _)⟩
              rw [← lay_swap A j k (by omega) hk1, List.set_comm _ _ (by omega), List.map_set, List.map_set]
              exact (own_cells ((own_cells (own_fr hI.2.1 ((Fr.refl No _).drewN n) (fun _ _ h => h))).2.2.2.2 j (.int .i64 A[j - 1]) (by omega))).2.2.2.2 (j - 1) (.int .i64 k) (by omega)
            have hf1 := hfz j
            have hf2 := hfz (j - 1)
            generalize A[j - 1] = z at hcz hyz hyd HI1
            clear hcell hfz hset hyz fin
            go_wp2
            go_quiet (fail)
            go_wp2
            go_region
            go_wp2
            go_roundw
            case rel => exact ⟨j - 1, by omega, by go_num, HI1.out _⟩
            case measure => simp [intOf]; omega
          · have HZ : Hid (∃ (h : 0 < j) (h' : j - 1 < A.length), ¬ k < A[j - 1]) := ⟨by omega, hk1, hyz⟩
            have hyd : decide (k < A[j - 1]) = false := by simp; omega
            generalize A[j - 1] = z at hcz hyz hyd
            clear hcell hfz hset hyz
            go_wp2
            go_quiet (fail)
            go_wp2
            go_roundw
            case rel => exact (fin.out (.inr HZ.out) _).1
            case measure => rw [htg]; exact (fin.out (.inr HZ.out) _).2

theorem sorted_nil (w : World) : Calls Try.prog 69 #[.map none] w (IntsPost w []) := by
  have hrg := run_range_nilMap (P := Try.prog) w 113 3 4 Try.underlying113
  have hnx : ∀ ty, (Instr.next (.pointer (some ⟨w.heap.size, 0, none⟩)) false ty).run Try.prog (w.alloc (.mapIter none 0 #[] 0)) = _ := fun ty => run_next_nilMap w ty 0 0 #[]
  go_enter Try.func69, Try.ntmps69
  go_wp2
  refine wp_loop_rounds 1 ?_
  rw [rounds_succ]
  go_wp2
  go_ret
  exact ⟨_, rfl, own_nil _ _ _ _, (Fr.refl _ _).alloc _, fun _ => rfl⟩
end Go.Proofs.Qxb6500357a
