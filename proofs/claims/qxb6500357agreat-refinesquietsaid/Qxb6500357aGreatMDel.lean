/- The model's Del: the walk. -/
import Derived.Test.Qxb6500357aGreatMPut3
namespace Go.Proofs.Qxb6500357aGreat
open Go.RowKit Go.Tag
set_option linter.unusedVariables false
set_option linter.unusedSimpArgs false
set_option maxRecDepth 100000
attribute [local simp] str_size
attribute [local go_sem] str_size
section
variable (b : Nat) (F : Nat → Prop) (s : St) (B : Int) (w : World)
set_option maxHeartbeats 1000000 in
theorem mDel_bad (id : Int) (h : MS w F b s) (hf : Fine s B) (hd : s.docs id = none) : Calls Tryz.prog 90 #[.pointer (some ⟨b, 0, none⟩), .int .i64 id] w (MTurn w F b s (.int .i64 (s.getErr id))) := by
  have HM : Hid (∀ W v, Fr No w W → MTurn w F b s v (.returned v) W) := fun W v f => mturn_keep (h.frNo f) f.any
  have HA : Hid (∀ W, Fr No w W → Calls Tryz.prog 102 #[.pointer (some ⟨b, 0, none⟩), .int .i64 id] W (AtPost W s id)) := fun W f => mAt_any b F s W id (h.frNo f) (by have := hf.size; omega)
  by_cases c2 : ¬ (1 ≤ id ∧ id ≤ 9)
  · have hE : s.getErr id = 2 := getErr_bad c2
    rw [hE]
    have hdd : (decide (id < 1) = true ∧ id < 1) ∨ (decide (id < 1) = false ∧ ¬ id < 1 ∧ decide (9 < id) = true ∧ 9 < id) := by
      by_cases h1 : id < 1
      · exact .inl ⟨by simpa using h1, h1⟩
      · exact .inr ⟨by simpa using h1, h1, by simp; omega, by omega⟩
    clear hE h hf c2 hd
    rcases hdd with ⟨e1, e2⟩ | ⟨e1, e2, e3, e4⟩
    all_goals
      go_enter Tryz.func90, Tryz.ntmps90
      go_wp2
      go_ret
      exact HM.out _ _ (Fr.refl _ _)
  have e1 : decide (id < 1) = false := by simp; omega
  have e2 : ¬ id < 1 := by omega
  have e3 : decide (9 < id) = false := by simp; omega
  have e4 : ¬ 9 < id := by omega
  have hE : s.getErr id = 6 := getErr_none (by omega) hd
  rw [hE]
  have HT : Hid (∀ j, AtPos s id j → decide (∃ h : j < s.ids.length, s.ids[j] = id) = false) := fun j hj => by
    rw [decide_eq_false_iff_not, atPos_there hf hj, hd]; simp
  clear hE h hf c2 hd
  go_enter Tryz.func90, Tryz.ntmps90
  go_wp2_with (go_at_call 102; refine (HA.out w (Fr.refl _ _)).mono ?_
               rintro e w1 ⟨j, rfl, hP, f1⟩
               rw [HT.out j hP])
  go_ret
  exact HM.out _ _ f1

set_option maxHeartbeats 4000000 in
theorem mDel_good (k : Nat) (h : MS w F b s) (hf : Fine s B) (hid : 1 ≤ k ∧ k ≤ 9) (hd : (s.docs k).isSome = true) :
    Calls Tryz.prog 90 #[.pointer (some ⟨b, 0, none⟩), .int .i64 (k : Int)] w (MTurn w F b (s.del k) (.int .i64 0)) := by
  have HA : Hid (∀ W, Fr No w W → Calls Tryz.prog 102 #[.pointer (some ⟨b, 0, none⟩), .int .i64 (k : Int)] W (AtPost W s k)) := fun W f => mAt_any b F s W k (h.frNo f) (by have := hf.size; omega)
  have hid' : (1 : Int) ≤ (k : Int) ∧ (k : Int) ≤ 9 := by omega
  have e1 : decide ((k : Int) < 1) = false := by simp; omega
  have e2 : ¬ (k : Int) < 1 := by omega
  have e3 : decide (9 < (k : Int)) = false := by simp; omega
  have e4 : ¬ 9 < (k : Int) := by omega
  have e5 : decide (k < 1) = false := by simp; omega
  have e6 : decide (9 < k) = false := by simp; omega
  have e7 : decide (k = 0) = false := by simp; omega
  have e8 : ¬ k = 0 := by omega
  obtain ⟨D, a, h⟩ := h
  have HF : Hid (∀ k, F k → k < w.heap.size) := h.lt
  have HM : Hid (∀ W, Fr No w W → MSat W F b s D a) := fun W f => h.fr f (fun _ _ e => e)
  have hn6 := hf.size
  obtain ⟨c0, -, fz, hbl⟩ := h.cells
  have HEX : Hid (∀ j, AtPos s k j → ∃ h : j < s.ids.length, s.ids[j] = (k : Int)) := fun j hj => by rw [atPos_there hf hj]; exact hd
  clear h hd
  go_enter Tryz.func90, Tryz.ntmps90
  go_upto_region 6 with (go_at_call 102; refine (HA.out w (Fr.refl _ _)).mono ?_
                         rintro e w1 ⟨j, rfl, hP, f1⟩
                         obtain ⟨hjl, hje⟩ := HEX.out j hP
                         rw [decide_eq_true (p := ∃ h : j < s.ids.length, s.ids[j] = (k : Int)) ⟨hjl, hje⟩])
  have HM1 : Hid (MSat w1 F b s D a ∧ Fr F w w1) := ⟨HM.out w1 f1, f1.any⟩
  have c01 := f1.cell c0 (fun h => h)
  have fz1 := HM1.out.1.cells.2.2.1
  have hb1 := HM1.out.1.cells.2.2.2
  have h1 := del_docs_ids hid' hjl hje
  obtain ⟨a0, cap, hD, hcap, -⟩ := HM1.out.1.docs
  have hown := HM1.out.1.own
  obtain ⟨n, hn⟩ : ∃ n, s.ids.length = n := ⟨_, rfl⟩
  have HN : Hid (s.ids.length = n) := hn
  rw [hn] at hn6 hjl hD hcap hown
  obtain ⟨i0, hi, hz0, hz1, hz2⟩ := info_parts info88
  obtain ⟨wm, hmk, hom, hgm⟩ := run_make_own (P := Tryz.prog) w1 w1.heap.size 119 88 i0 (.agg #[.int .i64 0, .int .i64 0, .string (str [])]) 3 Tryz.underlying119 hi hz0 hz1 .i64 .i64 n (by rw [hz2]; omega) (by unfold maxLen; omega) (Nat.le_refl _)
  have hmk' : (Instr.makeSlice 119 (.int .i64 0) (.int .i64 (n : Int))).run Tryz.prog w1 = .ok (.slice (some ⟨w1.heap.size, 0, none⟩) 0 n) wm := hmk
  have fm : Fr No w1 wm := (Fr.refl No w1).grown hgm (fun k hk => by cases hk)
  have hsm := fm.size
  have c0m := fm.cell c01 (fun h => h)
  have bm : b < wm.heap.size := Nat.lt_of_lt_of_le hb1 fm.size
  have HMK : Hid (Fr No w1 wm) := fm
  have HEND : Hid (∀ w' v' m, Fr No w1 w' → w'.ownsRow w1.heap.size 88 3 v' m (docF s (s.ids.take j) ++ docF s (s.ids.drop (j + 1))) → MTurn w F b (s.del k) (.int .i64 0) (.returned (.int .i64 0)) (w'.setCell ⟨b, 0, none⟩ v')) := fun w' v' m f ho => by
    rw [← h1.2] at ho
    have hm : m = (s.del k).ids.length := by
      have := ho.1
      rw [docF_len] at this; omega
    subst hm
    have h2 := turn_set (HM1.out.1.fr f (fun _ _ e => e)) (HM1.out.2.trans f.any) HF.out HM1.out.2.size (s' := s.del k) rfl ho
    exact ⟨rfl, h2.1, h2.2⟩
  have HL : Hid ((docF s (s.ids.take j)).length = j * 3 ∧ (docF s (s.ids.drop (j + 1))).length = (n - (j + 1)) * 3) := ⟨by rw [docF_len, List.length_take, HN.out]; congr 1; omega, by rw [docF_len, List.length_drop, HN.out]⟩
  have HOO : Hid ((∀ u ∈ docF s (s.ids.take j), u.oneCell' = true) ∧ ∀ u ∈ docF s (s.ids.drop (j + 1)), u.oneCell' = true) := ⟨one_doc s _, one_doc s _⟩
  have HX : Hid (docF s s.ids = docF s (s.ids.take j) ++ docC s k ++ docF s (s.ids.drop (j + 1))) := by have := ids_cut s (j := j) (by rw [HN.out]; exact hjl); rw [hje] at this; exact this
  have HOW : Hid (w1.ownsRow 0 88 3 D n (docF s (s.ids.take j) ++ docC s k ++ docF s (s.ids.drop (j + 1)))) := by rw [← HX.out]; exact hown
  have HLC : Hid ((docC s k).length = 3) := rfl
  clear hmk fm hgm hn hown h1 HX hP f1 hje c0 fz HA HM HEX
  generalize docF s (s.ids.take j) = A at *
  generalize docF s (s.ids.drop (j + 1)) = C at *
  generalize docC s k = Z at *
  rcases HOW.out.2 with ⟨hDn, hn0⟩ | ⟨gb, cap, cur, hDs, -, hgb, hn1, hm1, hsz1, htk⟩
  · omega
  · subst hDs
    simp only [Value.slice.injEq] at hD
    obtain ⟨rfl, -, rfl⟩ := hD
    have HCE : Hid (∀ i x, (A ++ Z ++ C)[i]? = some x → w1.cell? ⟨gb, i, none⟩ = some x) := fun i x hx => by
      rw [cell_of_heap hgb, ← Array.getElem?_toList]
      rw [← htk, List.getElem?_take] at hx
      split at hx
      · exact hx
      · cases hx
    have HT1 : Hid (∀ i x, A[i]? = some x → w1.cell? ⟨gb, 0 + i, none⟩ = some x) := fun i x hx => by
      rw [Nat.zero_add]; exact HCE.out i x (by rw [List.append_assoc, List.getElem?_append_left (List.getElem?_eq_some_iff.1 hx).1]; exact hx)
    have HT2 : Hid (∀ i x, C[i]? = some x → w1.cell? ⟨gb, (j + 1) * 3 + i, none⟩ = some x) := fun i x hx => HCE.out _ x (by
      have hl : (A ++ Z).length = (j + 1) * 3 := by rw [List.length_append, HL.out.1, HLC.out]; omega
      rw [← hl, List.getElem?_append_right (by omega)]; simpa using hx)
    clear HCE hgb htk hsz1 HOW HLC
    by_cases hjn2 : j + 1 < n
    · have hjd : (j : Int) + 1 < (n : Int) := by omega
      have hjd2 : (j : Int) < (n : Int) := by omega
      go_wp2_with first
        | (at_builtin; refine wpList_append_own_at _ rfl _ _ 119 rfl w1.heap.size 88 i0 (.agg #[.int .i64 0, .int .i64 0, .string (str [])]) 3 32 Tryz.underlying119 hi hz0 hz1 hz2 rfl (by decide) v1 (0 + j) _ rfl ho1 ⟨gb, (j + 1) * 3, none⟩ (n - (j + 1)) (cap - (j + 1)) C rfl HL.out.2 (src_fr f1a HT2.out) HOO.out.2 (by unfold maxLen; omega) (by omega) (by have := f1a.size; omega) ?_
           intro v3 w3 ho3 hg3 hnil3 hloc3
           have f3 : Fr No w1 w3 := fr_owned3 f1a ho1 (Nat.le_refl _) hg3
           have HD : Hid (MTurn w F b (s.del k) (.int .i64 0) (.returned (.int .i64 0)) (w3.setCell ⟨b, 0, none⟩ v3)) := HEND.out w3 v3 _ f3 (by simpa using ho3)
           have e0 := f3.cell c01 (fun h => h)
           have fz3 := frz f3 fz1 hb1
           obtain ⟨ao3, co3, hv3⟩ := own_slice ho3
           subst hv3
           clear ho3 hg3 hloc3)
        | (at_builtin; refine wpList_append_own_at _ rfl _ _ 119 rfl w1.heap.size 88 i0 (.agg #[.int .i64 0, .int .i64 0, .string (str [])]) 3 32 Tryz.underlying119 hi hz0 hz1 hz2 rfl (by decide) (.slice (some ⟨w1.heap.size, 0, none⟩) 0 n) 0 _ rfl hom ⟨gb, 0, none⟩ j cap A rfl HL.out.1 (src_fr HMK.out HT1.out) HOO.out.1 (by unfold maxLen; omega) (by omega) (by omega) ?_
           intro v1 wa ho1 hg1 hnil1 hloc1
           have f1a : Fr No w1 wa := fr_owned3 HMK.out hom (Nat.le_refl _) hg1
           have hs1 := f1a.size
           have c0a := f1a.cell c01 (fun h => h)
           have ba : b < wa.heap.size := Nat.lt_of_lt_of_le hb1 f1a.size
           clear hg1 hloc1)
      go_ret
      exact (by have h9 := HD.out; simp only [Nat.zero_add, Nat.add_zero] at h9; exact h9)
    · have hC : C = [] := List.eq_nil_of_length_eq_zero (by have := HL.out.2; omega)
      subst hC
      have hjeq : n = j + 1 := by omega
      subst hjeq
      have hmk2 : (Instr.makeSlice 119 (.int .i64 0) (.int .i64 ((j : Int) + 1))).run Tryz.prog w1 = .ok (.slice (some ⟨w1.heap.size, 0, none⟩) 0 (j + 1)) wm := hmk'
      rcases Classical.em (j + 1 = cap) with hcj | hcj
      · subst hcj
        go_wp2_with first
          | (at_builtin; refine wpList_append_own_at _ rfl _ _ 119 rfl w1.heap.size 88 i0 (.agg #[.int .i64 0, .int .i64 0, .string (str [])]) 3 32 Tryz.underlying119 hi hz0 hz1 hz2 rfl (by decide) v1 (0 + j) _ rfl ho1 _ _ _ [] rfl (by simp; try omega) (fun j u hj => by simp at hj) (fun u hu => by simp at hu) (by unfold maxLen; omega) (by omega) (by have := f1a.size; omega) ?_
             intro v3 w3 ho3 hg3 hnil3 hloc3
             have f3 : Fr No w1 w3 := fr_owned3 f1a ho1 (Nat.le_refl _) hg3
             have HD : Hid (MTurn w F b (s.del k) (.int .i64 0) (.returned (.int .i64 0)) (w3.setCell ⟨b, 0, none⟩ v3)) := HEND.out w3 v3 _ f3 (by simpa using ho3)
             have e0 := f3.cell c01 (fun h => h)
             have fz3 := frz f3 fz1 hb1
             obtain ⟨ao3, co3, hv3⟩ := own_slice ho3
             subst hv3
             clear ho3 hg3 hloc3)
          | (at_builtin; refine wpList_append_own_at _ rfl _ _ 119 rfl w1.heap.size 88 i0 (.agg #[.int .i64 0, .int .i64 0, .string (str [])]) 3 32 Tryz.underlying119 hi hz0 hz1 hz2 rfl (by decide) (.slice (some ⟨w1.heap.size, 0, none⟩) 0 (j + 1)) 0 _ rfl hom ⟨gb, 0, none⟩ j _ A rfl HL.out.1 (src_fr HMK.out HT1.out) HOO.out.1 (by unfold maxLen; omega) (by omega) (by omega) ?_
             intro v1 wa ho1 hg1 hnil1 hloc1
             have f1a : Fr No w1 wa := fr_owned3 HMK.out hom (Nat.le_refl _) hg1
             have hs1 := f1a.size
             have c0a := f1a.cell c01 (fun h => h)
             have ba : b < wa.heap.size := Nat.lt_of_lt_of_le hb1 f1a.size
             clear hg1 hloc1)
        go_ret
        exact (by have h9 := HD.out; simp only [Nat.zero_add, Nat.add_zero] at h9; exact h9)
      · go_wp2_with first
          | (at_builtin; refine wpList_append_own_at _ rfl _ _ 119 rfl w1.heap.size 88 i0 (.agg #[.int .i64 0, .int .i64 0, .string (str [])]) 3 32 Tryz.underlying119 hi hz0 hz1 hz2 rfl (by decide) v1 (0 + j) _ rfl ho1 _ _ _ [] rfl (by simp; try omega) (fun j u hj => by simp at hj) (fun u hu => by simp at hu) (by unfold maxLen; omega) (by omega) (by have := f1a.size; omega) ?_
             intro v3 w3 ho3 hg3 hnil3 hloc3
             have f3 : Fr No w1 w3 := fr_owned3 f1a ho1 (Nat.le_refl _) hg3
             have HD : Hid (MTurn w F b (s.del k) (.int .i64 0) (.returned (.int .i64 0)) (w3.setCell ⟨b, 0, none⟩ v3)) := HEND.out w3 v3 _ f3 (by simpa using ho3)
             have e0 := f3.cell c01 (fun h => h)
             have fz3 := frz f3 fz1 hb1
             obtain ⟨ao3, co3, hv3⟩ := own_slice ho3
             subst hv3
             clear ho3 hg3 hloc3)
          | (at_builtin; refine wpList_append_own_at _ rfl _ _ 119 rfl w1.heap.size 88 i0 (.agg #[.int .i64 0, .int .i64 0, .string (str [])]) 3 32 Tryz.underlying119 hi hz0 hz1 hz2 rfl (by decide) (.slice (some ⟨w1.heap.size, 0, none⟩) 0 (j + 1)) 0 _ rfl hom ⟨gb, 0, none⟩ j _ A rfl HL.out.1 (src_fr HMK.out HT1.out) HOO.out.1 (by unfold maxLen; omega) (by omega) (by omega) ?_
             intro v1 wa ho1 hg1 hnil1 hloc1
             have f1a : Fr No w1 wa := fr_owned3 HMK.out hom (Nat.le_refl _) hg1
             have hs1 := f1a.size
             have c0a := f1a.cell c01 (fun h => h)
             have ba : b < wa.heap.size := Nat.lt_of_lt_of_le hb1 f1a.size
             clear hg1 hloc1)
        go_ret
        exact (by have h9 := HD.out; simp only [Nat.zero_add, Nat.add_zero] at h9; exact h9)
theorem mDel_any (id : Int) (h : MS w F b s) (hf : Fine s B) : Calls Tryz.prog 90 #[.pointer (some ⟨b, 0, none⟩), .int .i64 id] w (MTurn w F b (s.delR id) (.int .i64 (s.getErr id))) := by
  cases hd : s.docs id with
  | none =>
    have : s.delR id = s := by unfold St.delR; rw [hd]
    rw [this]
    exact mDel_bad b F s B w id h hf hd
  | some d =>
    have hid := (hf.dom id d hd).1
    rw [delR_some hd, getErr_some hid hd]
    obtain ⟨k, rfl⟩ : ∃ k : Nat, id = k := ⟨id.toNat, by omega⟩
    exact mDel_good b F s B w k h hf (by omega) (by rw [hd]; rfl)
end
end Go.Proofs.Qxb6500357aGreat
