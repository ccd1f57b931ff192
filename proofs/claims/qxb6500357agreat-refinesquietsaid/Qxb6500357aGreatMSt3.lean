/- The model's store: Ids, InGroup, DropGroup. -/
import Derived.Test.Qxb6500357aGreatMSt2
namespace Go.Proofs.Qxb6500357aGreat
open Go.RowKit Go.Tag
set_option linter.unusedVariables false
set_option linter.unusedSimpArgs false
set_option maxRecDepth 100000
attribute [local simp] str_size
attribute [local go_sem] str_size
/-- A loop's state over the model's store. -/
def MidI (w : World) (F : Nat → Prop) (b : Nat) (s : St) (D : Value) (wr : World) : Prop := (∃ v, MSat wr F b s D v) ∧ Fr F w wr
theorem MidI.fr {w wr w' : World} {F : Nat → Prop} {b : Nat} {s : St} {D : Value} (h : MidI w F b s D wr) (f : Fr No wr w') : MidI w F b s D w' := by
  obtain ⟨⟨v, h1⟩, h2⟩ := h
  exact ⟨⟨v, h1.fr f (fun _ _ e => e)⟩, h2.trans f.any⟩
section
variable (b : Nat) (F : Nat → Prop) (s : St) (B : Int) (w : World)
set_option maxHeartbeats 1000000 in
theorem mIds_any (h : MS w F b s) (hl : s.ids.length ≤ 9) : Calls Tryz.prog 93 #[.pointer (some ⟨b, 0, none⟩)] w (MInts w F b s s.ids) := by
  obtain ⟨D, a, h⟩ := h
  obtain ⟨c0, c11, fz, hbl⟩ := h.cells
  have HZ : Hid (∀ v, MidI w F b s D (w.setCell ⟨b, 11, none⟩ (.int .i64 v))) := fun v => ⟨⟨v, h.ask v⟩, ask_fr h _⟩
  have HF : Hid (∀ k, F k → k < w.heap.size) := h.lt
  obtain ⟨a0, cap, rfl, -, -⟩ := h.docs
  clear h
  obtain ⟨n, hn⟩ : ∃ n, s.ids.length = n := ⟨_, rfl⟩
  have HN : Hid (s.ids.length = n) := hn
  rw [hn] at c0 HZ hl
  clear hn
  go_enter Tryz.func93, Tryz.ntmps93
  go_wp2
  go_loopw [3, 4] (fun l i wr => ∃ q : Nat, q ≤ n ∧ i = .int .i64 q ∧ MidI w F b s (.slice a0 n cap) wr ∧ wr.ownsRow w.heap.size 3 1 l q ((s.ids.take q).map (Value.int .i64)) ∧ (q = 0 → l = .slice none 0 0)) (fun _ i _ => n - (intOf i).toNat)
  case atStart => exact ⟨0, Nat.zero_le _, rfl, HZ.out _, own_nil _ _ _ _, fun _ => rfl⟩
  case round =>
    obtain ⟨q, hq, rfl, hM, ho, hnil⟩ := hrel
    by_cases hlt : q < n
    · have hql : q < s.ids.length := by rw [HN.out]; exact hlt
      obtain ⟨⟨v, hM1⟩, hM2⟩ := hM
      obtain ⟨m0, -, -, mbl⟩ := hM1.cells
      obtain ⟨a1, cap1, hD1, -, hdd⟩ := hM1.docs
      obtain ⟨g, hg1, -, hFg, k0, k1, k2⟩ := hdd q hql
      simp only [Value.slice.injEq] at hD1
      obtain ⟨rfl, -, -⟩ := hD1
      subst hg1
      have hd1 : (q : Int) < (n : Int) := by omega
      have hgl : g < wr.heap.size := hM1.lt g hFg
      have HM : Hid (MSat wr F b s (.slice (some ⟨g, 0, none⟩) n cap) v ∧ Fr F w wr ∧ wr.ownsRow w.heap.size 3 1 u3 q ((s.ids.take q).map (Value.int .i64))) := ⟨hM1, hM2, ho⟩
      have HT : Hid ((s.ids.take (q + 1)).map (Value.int .i64) = (s.ids.take q).map (Value.int .i64) ++ [.int .i64 s.ids[q]]) := by
        rw [Hid, take_snoc s.ids q hql, List.map_append]; rfl
      generalize s.ids[q] = lj at *
      have hsz := hM2.size
      obtain ⟨i0, hi, hz0, hz1, hz2⟩ := info_parts info3
      clear hM1 hM2 hdd k1 k2 hnil
      go_wp2_with (at_builtin; refine wpList_append_own_at _ rfl _ _ 55 rfl w.heap.size 3 i0 (.int .i64 0) 1 8 Tryz.underlying55 hi hz0 hz1 hz2 rfl (by decide) u3 q _ rfl (ho.alloc _) ⟨wr.heap.size, 0, none⟩ 1 1 [.int .i64 lj] rfl rfl (cell_one_new _ _ _) (by intro u hu; simp only [List.mem_singleton] at hu; subst hu; rfl) (by unfold maxLen; omega) (by omega) (by simp; omega) ?_
                   intro v' w2 ho2 hg2 hnil2 hloc
                   have HK : Hid (MidI w F b s (.slice (some ⟨g, 0, none⟩) n cap) w2 ∧ w2.ownsRow w.heap.size 3 1 v' (q + 1) ((s.ids.take (q + 1)).map (Value.int .i64))) := ⟨⟨⟨v, grow_ms HM.out.1 HF.out HM.out.2.2 (Nat.le_refl _) hg2⟩, grow_fr HM.out.2.1 HM.out.2.2 (Nat.le_refl _) hg2⟩, by rw [HT.out]; exact ho2⟩
                   clear ho2 hg2 hloc)
      go_roundw
      case rel => exact ⟨q + 1, by omega, by go_num, HK.out.1, HK.out.2, fun e => by omega⟩
      case measure => simp [intOf]; omega
    · have hqn : q = n := by omega
      have HE : Hid (MInts w F b s s.ids (.returned u3) wr) := by
        rw [hqn, ← HN.out, List.take_length] at ho
        obtain ⟨⟨v, hM1⟩, hM2⟩ := hM
        exact ⟨u3, rfl, ho, ⟨_, _, hM1⟩, hM2, fun e => hnil (by rw [hqn, ← HN.out, e]; rfl)⟩
      obtain ⟨⟨v, hM1⟩, hM2⟩ := hM
      obtain ⟨m0, -, -, mbl⟩ := hM1.cells
      have hd1 : ¬ (q : Int) < (n : Int) := by omega
      clear hM1 hM2 ho hnil
      go_wp2
      go_ret
      exact HE.out

set_option maxHeartbeats 1000000 in
theorem mInGroup_any (gr : Int) (h : MS w F b s) (hl : s.ids.length ≤ 9) : Calls Tryz.prog 99 #[.pointer (some ⟨b, 0, none⟩), .int .i64 gr] w (MAsk w F b s (.int .i64 (s.cnt gr : Int))) := by
  obtain ⟨D, a, h⟩ := h
  obtain ⟨c0, c11, fz, hbl⟩ := h.cells
  have HZ : Hid (∀ v, MidI w F b s D (w.setCell ⟨b, 11, none⟩ (.int .i64 v))) := fun v => ⟨⟨v, h.ask v⟩, ask_fr h _⟩
  obtain ⟨a0, cap, rfl, -, -⟩ := h.docs
  clear h
  obtain ⟨n, hn⟩ : ∃ n, s.ids.length = n := ⟨_, rfl⟩
  have HN : Hid (s.ids.length = n) := hn
  rw [hn] at c0 HZ hl
  clear hn
  go_enter Tryz.func99, Tryz.ntmps99
  go_wp2
  go_loopw [5, 6] (fun l i wr => ∃ q c : Nat, q ≤ n ∧ c ≤ q ∧ i = .int .i64 q ∧ l = .int .i64 c ∧ MidI w F b s (.slice a0 n cap) wr ∧ Hid (c = ((s.ids.take q).filter fun i => decide (s.groupOf i = gr)).length)) (fun _ i _ => n - (intOf i).toNat)
  case atStart => exact ⟨0, 0, Nat.zero_le _, Nat.le_refl _, rfl, rfl, HZ.out _, by rw [Hid]; simp⟩
  case round =>
    obtain ⟨q, c, hq, hcq, rfl, rfl, hM, hc⟩ := hrel
    by_cases hlt : q < n
    · have hql : q < s.ids.length := by rw [HN.out]; exact hlt
      have HM : Hid (MidI w F b s (.slice a0 n cap) wr) := hM
      obtain ⟨⟨v, hM1⟩, hM2⟩ := hM
      obtain ⟨m0, -, -, mbl⟩ := hM1.cells
      obtain ⟨a1, cap1, hD1, -, hdd⟩ := hM1.docs
      obtain ⟨g, hg1, -, hFg, k0, k1, k2⟩ := hdd q hql
      simp only [Value.slice.injEq] at hD1
      obtain ⟨rfl, -, -⟩ := hD1
      subst hg1
      have hd1 : (q : Int) < (n : Int) := by omega
      have HT : Hid (((s.ids.take (q + 1)).filter fun i => decide (s.groupOf i = gr)).length = c + (if s.groupOf s.ids[q] = gr then 1 else 0)) := by
        rw [Hid, take_snoc s.ids q hql, List.filter_append, List.length_append, ← hc.out]
        congr 1
        by_cases e : s.groupOf s.ids[q] = gr <;> simp [e]
      generalize s.groupOf s.ids[q] = gg at *
      clear hM1 hM2 hdd k0 k2 hc
      by_cases hg : gg = gr
      · have hb : (gg == gr) = true := by simp [hg]
        rw [if_pos hg] at HT
        clear hg
        go_wp2
        go_roundw
        case rel => exact ⟨q + 1, c + 1, by omega, by omega, by go_num, by go_num, HM.out, HT.out.symm⟩
        case measure => simp [intOf]; omega
      · have hb : (gg == gr) = false := by simp [hg]
        rw [if_neg hg] at HT
        clear hg
        go_wp2
        go_roundw
        case rel => exact ⟨q + 1, c, by omega, by omega, by go_num, rfl, HM.out, HT.out.symm⟩
        case measure => simp [intOf]; omega
    · have hqn : q = n := by omega
      have HE : Hid (MAsk w F b s (.int .i64 (s.cnt gr : Int)) (.returned (.int .i64 (c : Int))) wr) := by
        have h1 := hc.out
        rw [hqn, ← HN.out, List.take_length] at h1
        obtain ⟨⟨v, hM1⟩, hM2⟩ := hM
        exact ⟨by rw [h1]; rfl, ⟨_, _, hM1⟩, hM2⟩
      obtain ⟨⟨v, hM1⟩, hM2⟩ := hM
      obtain ⟨m0, -, -, mbl⟩ := hM1.cells
      have hd1 : ¬ (q : Int) < (n : Int) := by omega
      clear hM1 hM2 hc
      go_wp2
      go_ret
      exact HE.out

theorem drop_idsF (s : St) (g : Int) : (s.drop g).ids = s.ids.filter fun i => !decide (s.groupOf i = g) := by
  unfold St.ids
  rw [List.filter_filter]
  refine List.filter_congr fun i _ => ?_
  show (if s.groupOf i = g then none else s.docs i).isSome = _
  by_cases h : s.groupOf i = g <;> simp [h]
theorem drop_docF (s : St) (g : Int) : docF (s.drop g) (s.drop g).ids = docF s (s.drop g).ids := by
  refine docF_congr fun i hi => ?_
  rw [drop_idsF, List.mem_filter] at hi
  show (if s.groupOf i = g then none else s.docs i) = _
  rw [if_neg (by simpa using hi.2)]
theorem cnt_drop (s : St) (g : Int) : (s.drop g).ids.length + s.cnt g = s.ids.length := by
  rw [drop_idsF]
  unfold St.cnt
  generalize s.ids = l
  induction l with
  | nil => rfl
  | cons a l ih =>
    by_cases h : s.groupOf a = g
    · simp [List.filter_cons, h] at ih ⊢; omega
    · simp [List.filter_cons, h] at ih ⊢; omega

set_option maxHeartbeats 1000000 in
theorem mDrop_any (gr : Int) (h : MS w F b s) (hl : s.ids.length ≤ 9) : Calls Tryz.prog 91 #[.pointer (some ⟨b, 0, none⟩), .int .i64 gr] w (MTurn w F b (s.drop gr) (.int .i64 (s.cnt gr : Int))) := by
  obtain ⟨D, a, h⟩ := h
  obtain ⟨c0, c11, fz, hbl⟩ := h.cells
  have HZ : Hid (MidI w F b s D w) := ⟨⟨_, h⟩, Fr.refl _ _⟩
  have HF : Hid (∀ k, F k → k < w.heap.size) := h.lt
  obtain ⟨a0, cap, rfl, -, -⟩ := h.docs
  clear h
  obtain ⟨n, hn⟩ : ∃ n, s.ids.length = n := ⟨_, rfl⟩
  have HN : Hid (s.ids.length = n) := hn
  rw [hn] at c0 HZ hl
  clear hn
  go_enter Tryz.func91, Tryz.ntmps91
  go_wp2
  go_loopw [5, 6] (fun l i wr => ∃ q c : Nat, q ≤ n ∧ c ≤ q ∧ i = .int .i64 q ∧ MidI w F b s (.slice a0 n cap) wr ∧ Hid (c = ((s.ids.take q).filter fun i => !decide (s.groupOf i = gr)).length) ∧ wr.ownsRow w.heap.size 88 3 l c (docF s ((s.ids.take q).filter fun i => !decide (s.groupOf i = gr)))) (fun _ i _ => n - (intOf i).toNat)
  case atStart => exact ⟨0, 0, Nat.zero_le _, Nat.le_refl _, rfl, HZ.out, by rw [Hid]; simp, own_nil _ _ _ _⟩
  case round =>
    obtain ⟨q, c, hq, hcq, rfl, hM, hc, ho⟩ := hrel
    by_cases hlt : q < n
    · have hql : q < s.ids.length := by rw [HN.out]; exact hlt
      have HM0 : Hid (MidI w F b s (.slice a0 n cap) wr) := hM
      obtain ⟨⟨v, hM1⟩, hM2⟩ := hM
      obtain ⟨m0, -, -, mbl⟩ := hM1.cells
      obtain ⟨a1, cap1, hD1, -, hdd⟩ := hM1.docs
      obtain ⟨g, hg1, -, hFg, k0, k1, k2⟩ := hdd q hql
      simp only [Value.slice.injEq] at hD1
      obtain ⟨rfl, -, -⟩ := hD1
      subst hg1
      have hd1 : (q : Int) < (n : Int) := by omega
      have hgl : g < wr.heap.size := hM1.lt g hFg
      have HM : Hid (MSat wr F b s (.slice (some ⟨g, 0, none⟩) n cap) v ∧ Fr F w wr ∧ wr.ownsRow w.heap.size 88 3 u5 c (docF s ((s.ids.take q).filter fun i => !decide (s.groupOf i = gr)))) := ⟨hM1, hM2, ho⟩
      have hsz := hM2.size
      by_cases hg : s.groupOf s.ids[q] = gr
      · have hb : (s.groupOf s.ids[q] == gr) = true := by simp [hg]
        have HT : Hid (((s.ids.take (q + 1)).filter fun i => !decide (s.groupOf i = gr)) = (s.ids.take q).filter fun i => !decide (s.groupOf i = gr)) := by
          rw [Hid, take_snoc s.ids q hql, List.filter_append]; simp [hg]
        generalize s.groupOf s.ids[q] = gg at *
        clear hM1 hM2 hdd k0 k2 hg ho
        go_wp2
        go_roundw
        case rel => exact ⟨q + 1, c, by omega, by omega, by go_num, HM0.out, by rw [HT.out]; exact hc, by rw [HT.out]; exact HM.out.2.2⟩
        case measure => simp [intOf]; omega
      · have hb : (s.groupOf s.ids[q] == gr) = false := by simp [hg]
        have HT : Hid (((s.ids.take (q + 1)).filter fun i => !decide (s.groupOf i = gr)) = ((s.ids.take q).filter fun i => !decide (s.groupOf i = gr)) ++ [s.ids[q]]) := by
          rw [Hid, take_snoc s.ids q hql, List.filter_append]; simp [hg]
        have HT2 : Hid (docF s ((s.ids.take (q + 1)).filter fun i => !decide (s.groupOf i = gr)) = docF s ((s.ids.take q).filter fun i => !decide (s.groupOf i = gr)) ++ [.int .i64 s.ids[q], .int .i64 (s.groupOf s.ids[q]), .string (str (s.textOf s.ids[q]))]) := by
          rw [HT.out, docF_append]; rfl
        have HT3 : Hid (c + 1 = ((s.ids.take (q + 1)).filter fun i => !decide (s.groupOf i = gr)).length) := by rw [HT.out, List.length_append, ← hc.out]; rfl
        generalize s.groupOf s.ids[q] = gg at *
        generalize s.textOf s.ids[q] = tt at *
        generalize s.ids[q] = lj at *
        obtain ⟨i0, hi, hz0, hz1, hz2⟩ := info_parts info88
        clear hM1 hM2 hdd hg HT
        go_wp2_with (at_builtin; refine wpList_append_own_at _ rfl _ _ 119 rfl w.heap.size 88 i0 (.agg #[.int .i64 0, .int .i64 0, .string (str [])]) 3 32 Tryz.underlying119 hi hz0 hz1 hz2 rfl (by decide) u5 c _ rfl (ho.alloc _) ⟨wr.heap.size, 0, none⟩ 1 1 [.int .i64 lj, .int .i64 gg, .string (str tt)] rfl rfl (cell_three_new _ _ _ _ _) (by intro u hu; simp only [List.mem_cons, List.not_mem_nil, or_false] at hu; rcases hu with rfl | rfl | rfl <;> rfl) (by unfold maxLen; omega) (by omega) (by simp; omega) ?_
                     intro v' w2 ho2 hg2 hnil2 hloc
                     have HK : Hid (MidI w F b s (.slice (some ⟨g, 0, none⟩) n cap) w2 ∧ w2.ownsRow w.heap.size 88 3 v' (c + 1) (docF s ((s.ids.take (q + 1)).filter fun i => !decide (s.groupOf i = gr)))) := ⟨⟨⟨v, grow_ms HM.out.1 HF.out HM.out.2.2 (Nat.le_refl _) hg2⟩, grow_fr HM.out.2.1 HM.out.2.2 (Nat.le_refl _) hg2⟩, by rw [HT2.out]; exact ho2⟩
                     clear ho2 hg2 hloc)
        go_roundw
        case rel => exact ⟨q + 1, c + 1, by omega, by omega, by go_num, HK.out.1, HT3, HK.out.2⟩
        case measure => simp [intOf]; omega
    · have hqn : q = n := by omega
      obtain ⟨⟨v, hM1⟩, hM2⟩ := hM
      have HE : Hid (MTurn w F b (s.drop gr) (.int .i64 (s.cnt gr : Int)) (.returned (.int .i64 ((n : Int) - (c : Int)))) (wr.setCell ⟨b, 0, none⟩ u5)) := by
        have h1 := hc.out
        rw [hqn, ← HN.out, List.take_length, ← drop_idsF] at h1
        rw [hqn, ← HN.out, List.take_length, ← drop_idsF, ← drop_docF, h1] at ho
        have h2 := turn_set hM1 hM2 HF.out (Nat.le_refl _) (s' := s.drop gr) rfl ho
        have h3 := cnt_drop s gr
        refine ⟨?_, h2.1, h2.2⟩
        rw [← HN.out, h1, show ((s.ids.length : Int) - ((s.drop gr).ids.length : Int)) = (s.cnt gr : Int) by omega]
      obtain ⟨m0, -, mfz, mbl⟩ := hM1.cells
      obtain ⟨ao, co, hoD⟩ : ∃ ao co, u5 = .slice ao c co := by
        rcases ho.2 with ⟨e1, e2⟩ | ⟨g, cap, cur, e1, -⟩
        · exact ⟨none, 0, by rw [e1, e2]⟩
        · exact ⟨_, _, e1⟩
      subst hoD
      have hd1 : ¬ (q : Int) < (n : Int) := by omega
      have hwp : IntKind.i64.wrap ((n : Int) - (c : Int)) = (n : Int) - (c : Int) := wrap_i64 _ (by omega) (by omega)
      clear hM1 hM2 hc ho
      go_wp2
      go_ret
      exact HE.out
end
end Go.Proofs.Qxb6500357aGreat
