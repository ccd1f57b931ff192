/- The model's Put: the walk. -/
import Derived.Test.Qxb6500357aGreatMPut2
import Derived.Test.Qxb6500357aGreatStore5
namespace Go.Proofs.Qxb6500357aGreat
open Go.RowKit Go.Tag
set_option linter.unusedVariables false
set_option linter.unusedSimpArgs false
set_option maxRecDepth 100000
attribute [local simp] str_size
attribute [local go_sem] str_size
theorem frz {w w' : World} {b : Nat} (f : Fr No w w') (h : ∀ i, w.frozen? ⟨b, i, none⟩ = false) (hb : b < w.heap.size) : ∀ i, w'.frozen? ⟨b, i, none⟩ = false := fun i => by
  rw [World.frozen?_of_block (w := w) (f.block b hb (fun h => h))]; exact h i
theorem MTurn.drew {w w' : World} {F : Nat → Prop} {b : Nat} {s : St} {v : Value} {e : Ending} (h : MTurn w F b s v e w') : MTurn w F b s v e w'.drew := ⟨h.1, h.2.1.frNo ((Fr.refl No w').drew), h.2.2.drew⟩
section
variable (b : Nat) (F : Nat → Prop) (s : St) (B : Int) (w : World)
set_option maxHeartbeats 4000000 in
theorem mPut_good (k : Nat) (g : Int) (t : List UInt8) (h : MS w F b s) (hf : Fine s B) (hB : B < 1000000000000000000) (hid : 1 ≤ k ∧ k ≤ 9) (hg : 0 ≤ g ∧ g ≤ 2) (ht : t.length ≤ 12) (hx : textOK t = true) (h6 : ¬ (s.docs k = none ∧ s.ids.length = 6)) :
    Calls Tryz.prog 89 #[.pointer (some ⟨b, 0, none⟩), .int .i64 (k : Int), .int .i64 g, .string (str t)] w (MTurn w F b (s.put k ⟨g, t⟩) (.int .i64 0)) := by
  have HA : Hid (∀ W, Fr No w W → Calls Tryz.prog 102 #[.pointer (some ⟨b, 0, none⟩), .int .i64 (k : Int)] W (AtPost W s k)) := fun W f => mAt_any b F s W k (h.frNo f) (by have := hf.size; omega)
  have HTX : Hid (∀ W, Calls Tryz.prog 100 #[.string (str t)] W fun e w' => e = .returned (.bool true) ∧ w' = W) := fun W => by have := textOK_any t W (by omega); rw [hx] at this; exact this
  have hid' : (1 : Int) ≤ (k : Int) ∧ (k : Int) ≤ 9 := by omega
  have d1 : decide ((12 : Int) < (t.length : Int)) = false := by simp; omega
  have d1' : ¬ (12 : Int) < (t.length : Int) := by omega
  have e1 : decide ((k : Int) < 1) = false := by simp; omega
  have e2 : ¬ (k : Int) < 1 := by omega
  have e3 : decide (9 < (k : Int)) = false := by simp; omega
  have e4 : ¬ 9 < (k : Int) := by omega
  have e5 : decide (k < 1) = false := by simp; omega
  have e6 : decide (9 < k) = false := by simp; omega
  have e7 : decide (k = 0) = false := by simp; omega
  have e8 : ¬ k = 0 := by omega
  have g1 : decide (g < 0) = false := by simp; omega
  have g2 : ¬ g < 0 := by omega
  have g3 : decide (2 < g) = false := by simp; omega
  have g4 : ¬ 2 < g := by omega
  obtain ⟨D, a, h⟩ := h
  have HF : Hid (∀ k, F k → k < w.heap.size) := h.lt
  have HM : Hid (∀ W, Fr No w W → MSat W F b s D a) := fun W f => h.fr f (fun _ _ e => e)
  have hn6 := hf.size
  obtain ⟨c0, -, fz, hbl⟩ := h.cells
  have HFB : Hid (F b) := h.fb
  have HR : Hid (0 ≤ s.revs k ∧ s.revs k ≤ B) := hf.revs k
  clear h
  go_enter Tryz.func89, Tryz.ntmps89
  go_upto_if 37 with (first
    | (go_at_call 100; refine (HTX.out _).mono ?_; rintro e w' ⟨rfl, hw'⟩; have hw' := hw'.symm; subst hw')
    | (go_at_call 102; refine (HA.out w (Fr.refl _ _)).mono ?_
       rintro e w1 ⟨j, rfl, hP, f1⟩
       obtain ⟨tb, htb⟩ : ∃ tb, decide (∃ h : j < s.ids.length, s.ids[j] = (k : Int)) = tb := ⟨_, rfl⟩
       have HTB : Hid (decide (∃ h : j < s.ids.length, s.ids[j] = (k : Int)) = tb) := htb
       rw [htb]
       clear htb))
  have HP : Hid (AtPos s k j) := hP
  have hM1 := HM.out w1 f1
  have HM1 : Hid (MSat w1 F b s D a ∧ Fr F w w1) := ⟨hM1, f1.any⟩
  have c01 := f1.cell c0 (fun h => h)
  have fz1 := hM1.cells.2.2.1
  have hb1 := hM1.cells.2.2.2
  clear hP f1 hM1 c0 fz HA HTX
  go_cut [11] from 37 to 73 (fun v wx => PutMid w F b s (s.put k ⟨g, t⟩) k ⟨g, t⟩ j wx)
  case first =>
    cases hd : s.docs k with
    | some d =>
      have hex : ∃ h : j < s.ids.length, s.ids[j] = (k : Int) := by rw [atPos_there hf HP.out, hd]; rfl
      have htb : true = tb := by rw [← HTB.out, decide_eq_true hex]
      subst htb
      obtain ⟨hjl, hje⟩ := hex
      have HE : Hid (PutMid w F b s (s.put k ⟨g, t⟩) k ⟨g, t⟩ j w1) := by
        have h1 := put_old (d := ⟨g, t⟩) hid' hjl hje
        exact mid_old HM1.out.1 HM1.out.2 h1.1 (ids_cut s hjl) hjl h1.2
      clear hjl hje hd
      go_wp2
      go_meet
      case rel => exact HE.out
    | none =>
      have hno : ¬ ∃ h : j < s.ids.length, s.ids[j] = (k : Int) := by rw [atPos_there hf HP.out, hd]; simp
      have htb : false = tb := by rw [← HTB.out, decide_eq_false hno]
      subst htb
      have hni : (k : Int) ∉ s.ids := by rw [mem_ids hf, hd]; simp
      have h1 := Go.Tag.put_new (d := ⟨g, t⟩) HP.out hid' hni
      have hne6 : s.ids.length ≠ 6 := fun e => h6 ⟨hd, e⟩
      have hjn := HP.out.le
      obtain ⟨a0, cap, hD, hcap, -⟩ := HM1.out.1.docs
      have hown := HM1.out.1.own
      obtain ⟨n, hn⟩ : ∃ n, s.ids.length = n := ⟨_, rfl⟩
      have HN : Hid (s.ids.length = n) := hn
      obtain ⟨i0, hi, hz0, hz1, hz2⟩ := info_parts info88
      obtain ⟨wm, hmk, hom, hgm⟩ := run_make_own (P := Tryz.prog) w1 w1.heap.size 119 88 i0 (.agg #[.int .i64 0, .int .i64 0, .string (str [])]) 3 Tryz.underlying119 hi hz0 hz1 .i64 .i64 (n + 1) (by rw [hz2]; omega) (by unfold maxLen; omega) (Nat.le_refl _)
      have hmk' : (Instr.makeSlice 119 (.int .i64 0) (.int .i64 ((n : Int) + 1))).run Tryz.prog w1 = .ok (.slice (some ⟨w1.heap.size, 0, none⟩) 0 (n + 1)) wm := hmk
      have fm : Fr No w1 wm := (Fr.refl No w1).grown hgm (fun k hk => by cases hk)
      have hsm := fm.size
      have c0m := fm.cell c01 (fun h => h)
      have bm : b < wm.heap.size := Nat.lt_of_lt_of_le hb1 fm.size
      have HMK : Hid (Fr No w1 wm) := fm
      rw [hn] at hn6 hne6 hjn hD hcap hown
      have hq6 : ((n : Int) == 6) = false := by simp; omega
      have hq6n : (n == 6) = false := by simp; omega
      have HEND : Hid (∀ w' v' m, Fr No w1 w' → w'.ownsRow w1.heap.size 88 3 v' m (docF s (s.ids.take j) ++ [.int .i64 0, .int .i64 0, .string (str [])] ++ docF s (s.ids.drop j)) → PutMid w F b s (s.put k ⟨g, t⟩) k ⟨g, t⟩ j (w'.setCell ⟨b, 0, none⟩ v')) := fun w' v' m f ho => by
        have hm : m = (s.put k ⟨g, t⟩).ids.length := by
          have := ho.1
          simp only [List.length_append, docF_len, List.length_take, List.length_drop, HN.out, List.length_cons, List.length_nil] at this
          rw [h1.1, HN.out]; omega
        subst hm
        refine mid_set HM1.out.1 HM1.out.2 f HF.out ho (by rw [docF_len, List.length_take, HN.out]; congr 1; omega) (by rw [h1.1, HN.out]; omega) h1.2
      have HX : Hid (docF s s.ids = docF s (s.ids.take j) ++ docF s (s.ids.drop j)) := by rw [Hid, ← docF_append, List.take_append_drop]
      have HL : Hid ((docF s (s.ids.take j)).length = j * 3 ∧ (docF s (s.ids.drop j)).length = (n - j) * 3) := ⟨by rw [docF_len, List.length_take, HN.out]; congr 1; omega, by rw [docF_len, List.length_drop, HN.out]⟩
      have HO1 := one_doc s (s.ids.take j)
      have HO2 := one_doc s (s.ids.drop j)
      have HOO : Hid ((∀ u ∈ docF s (s.ids.take j), u.oneCell' = true) ∧ ∀ u ∈ docF s (s.ids.drop j), u.oneCell' = true) := ⟨HO1, HO2⟩
      have HOW : Hid (w1.ownsRow 0 88 3 D n (docF s (s.ids.take j) ++ docF s (s.ids.drop j))) := by rw [← HX.out]; exact hown
      clear hmk fm hgm hn hown h1 hni hno hd h6 HX HO1 HO2
      generalize docF s (s.ids.take j) = A at *
      generalize docF s (s.ids.drop j) = C at *
      rcases HOW.out.2 with ⟨hDn, hn0⟩ | ⟨gb, cap, cur, hDs, -, hgb, hn1, hm1, hsz1, htk⟩
      · subst hn0
        have hj0 : j = 0 := by omega
        subst hj0
        have hA : A = [] := List.eq_nil_of_length_eq_zero (by have := HL.out.1; omega)
        have hC : C = [] := List.eq_nil_of_length_eq_zero (by have := HL.out.2; omega)
        subst hA hC
        rw [hDn] at c0m c01
        have hmk2 : (Instr.makeSlice 119 (.int .i64 0) (.int .i64 1)).run Tryz.prog w1 = .ok (.slice (some ⟨w1.heap.size, 0, none⟩) 0 1) wm := hmk'
        have hmk3 : (Instr.makeSlice 119 (.int .i64 0) (.int .i64 (wrap64 1))).run Tryz.prog w1 = .ok (.slice (some ⟨w1.heap.size, 0, none⟩) 0 1) wm := by rw [show wrap64 1 = ((1 : Nat) : Int) by kernel_rfl]; exact hmk'
        clear hD hcap hmk' HOW hDn
        go_wp2_with first
          | (at_builtin; refine wpList_append_own_none rfl _ _ 119 rfl w1.heap.size 88 i0 3 Tryz.underlying119 hi v2 1 _ rfl ho2 rfl ?_
             have HD : Hid (PutMid w F b s (s.put k ⟨g, t⟩) k ⟨g, t⟩ 0 (w2.setCell ⟨b, 0, none⟩ v2)) := HEND.out w2 v2 _ f2 ho2
             have fz3 := frz f2 fz1 hb1
             obtain ⟨ao3, co3, hv3⟩ := own_slice ho2
             subst hv3)
          | (at_builtin; refine wpList_append_own_at _ rfl _ _ 119 rfl w1.heap.size 88 i0 (.agg #[.int .i64 0, .int .i64 0, .string (str [])]) 3 32 Tryz.underlying119 hi hz0 hz1 hz2 rfl (by decide) (.slice (some ⟨w1.heap.size, 0, none⟩) 0 1) 0 _ rfl (hom.alloc _) ⟨wm.heap.size, 0, none⟩ 1 1 [.int .i64 0, .int .i64 0, .string (str [])] rfl rfl (cell_three_new _ _ _ _ _) (by intro u hu; simp only [List.mem_cons, List.not_mem_nil, or_false] at hu; rcases hu with rfl | rfl | rfl <;> rfl) (by decide) (by decide) (by simp; omega) ?_
             intro v2 w2 ho2 hg2 hnil2 hloc2
             have f2 : Fr No w1 w2 := fr_owned3 (HMK.out.alloc _) (hom.alloc _) (Nat.le_refl _) hg2
             have c02 := f2.cell c01 (fun h => h)
             have b2 : b < w2.heap.size := Nat.lt_of_lt_of_le hb1 f2.size
             clear hg2 hloc2)
          | (at_builtin; refine wpList_append_own_none rfl _ _ 119 rfl w1.heap.size 88 i0 3 Tryz.underlying119 hi (.slice (some ⟨w1.heap.size, 0, none⟩) 0 1) 0 [] rfl hom rfl ?_)
        go_meet
        case rel => (have h9 := HD.out; simp only [Nat.zero_add, Nat.add_zero] at h9; exact h9)
      · subst hDs
        simp only [Value.slice.injEq] at hD
        obtain ⟨rfl, -, rfl⟩ := hD
        have HCE : Hid (∀ i x, (A ++ C)[i]? = some x → w1.cell? ⟨gb, i, none⟩ = some x) := fun i x hx => by
          rw [cell_of_heap hgb, ← Array.getElem?_toList]
          rw [← htk, List.getElem?_take] at hx
          split at hx
          · exact hx
          · cases hx
        have HT1 : Hid (∀ i x, A[i]? = some x → w1.cell? ⟨gb, 0 + i, none⟩ = some x) := fun i x hx => by
          rw [Nat.zero_add]; exact HCE.out i x (by rw [List.getElem?_append_left (List.getElem?_eq_some_iff.1 hx).1]; exact hx)
        have HT2 : Hid (∀ i x, C[i]? = some x → w1.cell? ⟨gb, j * 3 + i, none⟩ = some x) := fun i x hx => HCE.out _ x (by rw [← HL.out.1, List.getElem?_append_right (by omega)]; simpa using hx)
        clear HCE hgb htk hsz1 HOW
        by_cases hjn2 : j < n
        · have hjd : (j : Int) < (n : Int) := by omega
          go_wp2_with first
            | (at_builtin; refine wpList_append_own_at _ rfl _ _ 119 rfl w1.heap.size 88 i0 (.agg #[.int .i64 0, .int .i64 0, .string (str [])]) 3 32 Tryz.underlying119 hi hz0 hz1 hz2 rfl (by decide) v2 (0 + j + 1) _ rfl ho2 ⟨gb, j * 3, none⟩ (n - j) (cap - j) C rfl HL.out.2 (src_fr f2 HT2.out) HOO.out.2 (by unfold maxLen; omega) (by omega) (by have := f2.size; omega) ?_
               intro v3 w3 ho3 hg3 hnil3 hloc3
               have f3 : Fr No w1 w3 := fr_owned3 f2 ho2 (Nat.le_refl _) hg3
               have HD : Hid (PutMid w F b s (s.put k ⟨g, t⟩) k ⟨g, t⟩ j (w3.setCell ⟨b, 0, none⟩ v3)) := HEND.out w3 v3 _ f3 (by simpa using ho3)
               have e0 := f3.cell c01 (fun h => h)
               have fz3 := frz f3 fz1 hb1
               obtain ⟨ao3, co3, hv3⟩ := own_slice ho3
               subst hv3
               clear ho3 hg3 hloc3)
            | (at_builtin; refine wpList_append_own_at _ rfl _ _ 119 rfl w1.heap.size 88 i0 (.agg #[.int .i64 0, .int .i64 0, .string (str [])]) 3 32 Tryz.underlying119 hi hz0 hz1 hz2 rfl (by decide) v1 (0 + j) _ rfl (ho1.alloc _) ⟨wa.heap.size, 0, none⟩ 1 1 [.int .i64 0, .int .i64 0, .string (str [])] rfl rfl (cell_three_new _ _ _ _ _) (by intro u hu; simp only [List.mem_cons, List.not_mem_nil, or_false] at hu; rcases hu with rfl | rfl | rfl <;> rfl) (by unfold maxLen; omega) (by omega) (by simp; omega) ?_
               intro v2 w2 ho2 hg2 hnil2 hloc2
               have f2 : Fr No w1 w2 := fr_owned3 (f1a.alloc _) (ho1.alloc _) (Nat.le_refl _) hg2
               have c02 := f2.cell c01 (fun h => h)
               have b2 : b < w2.heap.size := Nat.lt_of_lt_of_le hb1 f2.size
               clear hg2 hloc2)
            | (at_builtin; refine wpList_append_own_at _ rfl _ _ 119 rfl w1.heap.size 88 i0 (.agg #[.int .i64 0, .int .i64 0, .string (str [])]) 3 32 Tryz.underlying119 hi hz0 hz1 hz2 rfl (by decide) (.slice (some ⟨w1.heap.size, 0, none⟩) 0 (n + 1)) 0 _ rfl hom ⟨gb, 0, none⟩ j cap A rfl HL.out.1 (src_fr HMK.out HT1.out) HOO.out.1 (by unfold maxLen; omega) (by omega) (by omega) ?_
               intro v1 wa ho1 hg1 hnil1 hloc1
               have f1a : Fr No w1 wa := fr_owned3 HMK.out hom (Nat.le_refl _) hg1
               have hs1 := f1a.size
               have c0a := f1a.cell c01 (fun h => h)
               have ba : b < wa.heap.size := Nat.lt_of_lt_of_le hb1 f1a.size
               clear hg1 hloc1)
          go_meet
          case rel => (have h9 := HD.out; simp only [Nat.zero_add, Nat.add_zero] at h9; exact h9)
        · have hC : C = [] := List.eq_nil_of_length_eq_zero (by rw [HL.out.2]; omega)
          subst hC
          have hjeq : j = n := by omega
          subst hjeq
          rcases Classical.em (j = cap) with hcj | hcj
          · subst hcj
            go_wp2_with first
              | (at_builtin; refine wpList_append_own_at _ rfl _ _ 119 rfl w1.heap.size 88 i0 (.agg #[.int .i64 0, .int .i64 0, .string (str [])]) 3 32 Tryz.underlying119 hi hz0 hz1 hz2 rfl (by decide) v2 (0 + j + 1) _ rfl ho2 _ _ _ [] rfl (by simp; try omega) (fun j u hj => by simp at hj) (fun u hu => by simp at hu) (by unfold maxLen; omega) (by omega) (by have := f2.size; omega) ?_
                 intro v3 w3 ho3 hg3 hnil3 hloc3
                 have f3 : Fr No w1 w3 := fr_owned3 f2 ho2 (Nat.le_refl _) hg3
                 have HD : Hid (PutMid w F b s (s.put k ⟨g, t⟩) k ⟨g, t⟩ j (w3.setCell ⟨b, 0, none⟩ v3)) := HEND.out w3 v3 _ f3 (by simpa using ho3)
                 have e0 := f3.cell c01 (fun h => h)
                 have fz3 := frz f3 fz1 hb1
                 obtain ⟨ao3, co3, hv3⟩ := own_slice ho3
                 subst hv3
                 clear ho3 hg3 hloc3)
              | (at_builtin; refine wpList_append_own_at _ rfl _ _ 119 rfl w1.heap.size 88 i0 (.agg #[.int .i64 0, .int .i64 0, .string (str [])]) 3 32 Tryz.underlying119 hi hz0 hz1 hz2 rfl (by decide) v1 (0 + j) _ rfl (ho1.alloc _) ⟨wa.heap.size, 0, none⟩ 1 1 [.int .i64 0, .int .i64 0, .string (str [])] rfl rfl (cell_three_new _ _ _ _ _) (by intro u hu; simp only [List.mem_cons, List.not_mem_nil, or_false] at hu; rcases hu with rfl | rfl | rfl <;> rfl) (by unfold maxLen; omega) (by omega) (by simp; omega) ?_
                 intro v2 w2 ho2 hg2 hnil2 hloc2
                 have f2 : Fr No w1 w2 := fr_owned3 (f1a.alloc _) (ho1.alloc _) (Nat.le_refl _) hg2
                 have c02 := f2.cell c01 (fun h => h)
                 have b2 : b < w2.heap.size := Nat.lt_of_lt_of_le hb1 f2.size
                 clear hg2 hloc2)
              | (at_builtin; refine wpList_append_own_at _ rfl _ _ 119 rfl w1.heap.size 88 i0 (.agg #[.int .i64 0, .int .i64 0, .string (str [])]) 3 32 Tryz.underlying119 hi hz0 hz1 hz2 rfl (by decide) (.slice (some ⟨w1.heap.size, 0, none⟩) 0 (j + 1)) 0 _ rfl hom ⟨gb, 0, none⟩ j _ A rfl HL.out.1 (src_fr HMK.out HT1.out) HOO.out.1 (by unfold maxLen; omega) (by omega) (by omega) ?_
                 intro v1 wa ho1 hg1 hnil1 hloc1
                 have f1a : Fr No w1 wa := fr_owned3 HMK.out hom (Nat.le_refl _) hg1
                 have hs1 := f1a.size
                 have c0a := f1a.cell c01 (fun h => h)
                 have ba : b < wa.heap.size := Nat.lt_of_lt_of_le hb1 f1a.size
                 clear hg1 hloc1)
            go_meet
            case rel => (have h9 := HD.out; simp only [Nat.zero_add, Nat.add_zero] at h9; exact h9)
          · go_wp2_with first
              | (at_builtin; refine wpList_append_own_at _ rfl _ _ 119 rfl w1.heap.size 88 i0 (.agg #[.int .i64 0, .int .i64 0, .string (str [])]) 3 32 Tryz.underlying119 hi hz0 hz1 hz2 rfl (by decide) v2 (0 + j + 1) _ rfl ho2 _ _ _ [] rfl (by simp; try omega) (fun j u hj => by simp at hj) (fun u hu => by simp at hu) (by unfold maxLen; omega) (by omega) (by have := f2.size; omega) ?_
                 intro v3 w3 ho3 hg3 hnil3 hloc3
                 have f3 : Fr No w1 w3 := fr_owned3 f2 ho2 (Nat.le_refl _) hg3
                 have HD : Hid (PutMid w F b s (s.put k ⟨g, t⟩) k ⟨g, t⟩ j (w3.setCell ⟨b, 0, none⟩ v3)) := HEND.out w3 v3 _ f3 (by simpa using ho3)
                 have e0 := f3.cell c01 (fun h => h)
                 have fz3 := frz f3 fz1 hb1
                 obtain ⟨ao3, co3, hv3⟩ := own_slice ho3
                 subst hv3
                 clear ho3 hg3 hloc3)
              | (at_builtin; refine wpList_append_own_at _ rfl _ _ 119 rfl w1.heap.size 88 i0 (.agg #[.int .i64 0, .int .i64 0, .string (str [])]) 3 32 Tryz.underlying119 hi hz0 hz1 hz2 rfl (by decide) v1 (0 + j) _ rfl (ho1.alloc _) ⟨wa.heap.size, 0, none⟩ 1 1 [.int .i64 0, .int .i64 0, .string (str [])] rfl rfl (cell_three_new _ _ _ _ _) (by intro u hu; simp only [List.mem_cons, List.not_mem_nil, or_false] at hu; rcases hu with rfl | rfl | rfl <;> rfl) (by unfold maxLen; omega) (by omega) (by simp; omega) ?_
                 intro v2 w2 ho2 hg2 hnil2 hloc2
                 have f2 : Fr No w1 w2 := fr_owned3 (f1a.alloc _) (ho1.alloc _) (Nat.le_refl _) hg2
                 have c02 := f2.cell c01 (fun h => h)
                 have b2 : b < w2.heap.size := Nat.lt_of_lt_of_le hb1 f2.size
                 clear hg2 hloc2)
              | (at_builtin; refine wpList_append_own_at _ rfl _ _ 119 rfl w1.heap.size 88 i0 (.agg #[.int .i64 0, .int .i64 0, .string (str [])]) 3 32 Tryz.underlying119 hi hz0 hz1 hz2 rfl (by decide) (.slice (some ⟨w1.heap.size, 0, none⟩) 0 (j + 1)) 0 _ rfl hom ⟨gb, 0, none⟩ j _ A rfl HL.out.1 (src_fr HMK.out HT1.out) HOO.out.1 (by unfold maxLen; omega) (by omega) (by omega) ?_
                 intro v1 wa ho1 hg1 hnil1 hloc1
                 have f1a : Fr No w1 wa := fr_owned3 HMK.out hom (Nat.le_refl _) hg1
                 have hs1 := f1a.size
                 have c0a := f1a.cell c01 (fun h => h)
                 have ba : b < wa.heap.size := Nat.lt_of_lt_of_le hb1 f1a.size
                 clear hg1 hloc1)
            go_meet
            case rel => (have h9 := HD.out; simp only [Nat.zero_add, Nat.add_zero] at h9; exact h9)
  case rest =>
    obtain ⟨D2, a2, A, C, x, y, z, hL, hA, hj, he, hfr⟩ := hcut
    obtain ⟨gb, cap2, hD2⟩ : ∃ gb cap2, D2 = .slice (some ⟨gb, 0, none⟩) (s.put k ⟨g, t⟩).ids.length cap2 := by
      rcases hL.own.2 with ⟨hv, h0⟩ | ⟨g', cap', cur, hv, -⟩
      · omega
      · exact ⟨g', cap', hv⟩
    subst hD2
    obtain ⟨-, hgl, hce, hfg, -⟩ := own_cells3 hL.own
    have hne := (hL.fd gb rfl).2
    have HEN := mid_end hid hL hA hj he hfr rfl HFB.out
    have HEE : Hid (MTurn w F b (s.put k ⟨g, t⟩) (.int .i64 0) (.returned (.int .i64 0)) ((((wc.setCell ⟨gb, j * 3, none⟩ (.int .i64 k)).setCell ⟨gb, j * 3 + 1, none⟩ (.int .i64 g)).setCell ⟨gb, j * 3 + 2, none⟩ (.string (str t))).setCell ⟨b, 1 + k, none⟩ (.int .i64 (s.revs k + 1)))) := ⟨rfl, HEN.1, HEN.2⟩
    have x0 : wc.cell? ⟨gb, j * 3, none⟩ = some x := hce _ _ (by rw [← hA]; simp)
    have x1 : wc.cell? ⟨gb, j * 3 + 1, none⟩ = some y := hce _ _ (by rw [← hA]; simp [List.getElem?_append])
    have x2 : wc.cell? ⟨gb, j * 3 + 2, none⟩ = some z := hce _ _ (by rw [← hA]; simp [List.getElem?_append])
    have b0 : wc.cell? ⟨b, 0, none⟩ = some (.slice (some ⟨gb, 0, none⟩) (s.put k ⟨g, t⟩).ids.length cap2) := by rw [hL.row.cell (by omega)]; rfl
    have b1 : wc.cell? ⟨b, 1 + k, none⟩ = some (.int .i64 (s.revs k)) := by
      rw [hL.row.cell (by omega)]
      unfold fM
      rw [if_neg (by omega), if_neg (by omega)]
      rw [show (((1 + k : Nat) : Int) - 1) = (k : Int) by omega]
    have fzb := hL.row.frozen
    have hbl2 := hL.row.lt
    have hne2 : b ≠ gb := Ne.symm hne
    generalize (s.put k ⟨g, t⟩).ids.length = m at *
    have hjm : (j : Int) < (m : Int) := by omega
    have hr0 := HR.out.1
    have hr1 := HR.out.2
    have hk10 : (k : Int) < 10 := by omega
    have hk0 : ¬ (k : Int) < 0 := by omega
    generalize s.revs k = rv at *
    have hwp : IntKind.i64.wrap (rv + 1) = rv + 1 := wrap_i64 _ (by omega) (by omega)
    clear hL HEN hce hA he hfr hf h6 HM1 HM HF HP c01 fz1
    go_wp2
    go_region
    go_wp2
    go_ret
    exact HEE.out.drew
theorem mPut_any (id g : Int) (t : List UInt8) (h : MS w F b s) (hf : Fine s B) (hB : B < 1000000000000000000) (hlen : t.length ≤ 1000) : Calls Tryz.prog 89 #[.pointer (some ⟨b, 0, none⟩), .int .i64 id, .int .i64 g, .string (str t)] w (MTurn w F b (s.putR id g t) (.int .i64 (s.putErr id g t))) := by
  by_cases he : s.putErr id g t = 0
  · rw [putR_0 he, he]
    unfold St.putErr at he
    by_cases c1 : 12 < t.length
    · rw [if_pos c1] at he; cases he
    rw [if_neg c1] at he
    by_cases c2 : ¬ (1 ≤ id ∧ id ≤ 9)
    · rw [if_pos c2] at he; cases he
    rw [if_neg c2] at he
    by_cases c3 : ¬ (0 ≤ g ∧ g ≤ 2)
    · rw [if_pos c3] at he; cases he
    rw [if_neg c3] at he
    by_cases c4 : textOK t = false
    · rw [if_pos c4] at he; cases he
    rw [if_neg c4] at he
    by_cases c5 : s.docs id = none ∧ s.ids.length = 6
    · rw [if_pos c5] at he; cases he
    obtain ⟨k, rfl⟩ : ∃ k : Nat, id = k := ⟨id.toNat, by omega⟩
    exact mPut_good b F s B w k g t h hf hB (by omega) (by omega) (by omega) (by simpa using c4) c5
  · have : s.putR id g t = s := by unfold St.putR; rw [if_neg he]
    rw [this]
    exact mPut_bad b F s B w id g t h hf hlen he
end
end Go.Proofs.Qxb6500357aGreat
