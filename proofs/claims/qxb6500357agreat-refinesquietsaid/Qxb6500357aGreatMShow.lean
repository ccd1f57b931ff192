/- The model's store: Show. -/
import Derived.Test.Qxb6500357aGreatMSt3
import Derived.Test.Qxb6500357aGreatShow
namespace Go.Tag
open Go.RowKit Go.Proofs.Qxb6500357aGreat
set_option linter.unusedVariables false
set_option linter.unusedSimpArgs false
theorem MSat.revSl {w : World} {F : Nat → Prop} {b : Nat} {s : St} {D : Value} {a : Int} (h : MSat w F b s D a) : Sl w (.slice (some ⟨b, 2, none⟩) 9 9) (s.revL.map (Value.int .i64)) := by
  have hl : s.revL.length = 9 := by simp [St.revL, idsAll]
  refine ⟨some ⟨b, 2, none⟩, 9, by simp [hl], fun j u hj => ⟨b, 2, rfl, ?_⟩⟩
  simp only [List.getElem?_map, Option.map_eq_some_iff] at hj
  obtain ⟨x, hx, rfl⟩ := hj
  have hj9 : j < 9 := by have := (List.getElem?_eq_some_iff.1 hx).1; omega
  rw [revL_get s j hj9] at hx
  rw [h.row.cell (by omega)]
  unfold fM
  rw [if_neg (by omega), if_neg (by omega)]
  simp only [Option.some.injEq] at hx
  rw [← hx, show (((2 + j : Nat) : Int) - 1) = (j : Int) + 1 by omega]
theorem grpL_take (s : St) (j : Nat) (h : j < 3) : s.grpL.take (j + 1) = s.grpL.take j ++ [(s.cnt (j : Int) : Int)] := by
  have hl : s.grpL.length = 3 := by simp [St.grpL]
  rw [take_snoc s.grpL j (by omega)]
  have := grpL_get s j h
  rw [List.getElem?_eq_getElem (by omega)] at this
  simp only [Option.some.injEq] at this
  rw [this]
theorem MSat.MS {w : World} {F : Nat → Prop} {b : Nat} {s : St} {D : Value} {a : Int} (h : MSat w F b s D a) : Go.Tag.MS w F b s := ⟨_, _, h⟩
end Go.Tag
namespace Go.Proofs.Qxb6500357aGreat
open Go.RowKit Go.Tag
set_option linter.unusedVariables false
set_option linter.unusedSimpArgs false
set_option maxRecDepth 100000
attribute [local simp] str_size
attribute [local go_sem] str_size
section
variable (b : Nat) (F : Nat → Prop) (s : St) (B : Int) (w : World)
set_option maxHeartbeats 2000000 in
theorem mShow_any (h : MS w F b s) (hf : Fine s B) (hB : B < 1000000000000000000) : Calls Tryz.prog 78 #[.pointer (some ⟨b, 0, none⟩)] w (MAsk w F b s (.string (str s.show))) := by
  obtain ⟨D, a, h⟩ := h
  obtain ⟨c0, c11, fz, hbl⟩ := h.cells
  have HZ : Hid (∀ v, MidI w F b s D (w.setCell ⟨b, 11, none⟩ (.int .i64 v))) := fun v => ⟨⟨v, h.ask v⟩, ask_fr h _⟩
  have HF : Hid (∀ k, F k → k < w.heap.size) := h.lt
  have HH : Hid (Fine s B ∧ B < 1000000000000000000) := ⟨hf, hB⟩
  obtain ⟨a0, cap, rfl, -, -⟩ := h.docs
  have hn6 := hf.size
  clear h hf hB
  obtain ⟨n, hn⟩ : ∃ n, s.ids.length = n := ⟨_, rfl⟩
  have HN : Hid (s.ids.length = n) := hn
  rw [hn] at c0 HZ hn6
  clear hn
  go_enter Tryz.func78, Tryz.ntmps78
  go_wp2
  go_loopw [3, 4] (fun t i wr => ∃ q : Nat, q ≤ n ∧ i = .int .i64 q ∧ t = .string (str (docsStr s (s.ids.take q))) ∧ MidI w F b s (.slice a0 n cap) wr) (fun _ i _ => n - (intOf i).toNat)
  case atStart => exact ⟨0, Nat.zero_le _, rfl, rfl, HZ.out _⟩
  case round =>
    obtain ⟨q, hq, rfl, rfl, hM⟩ := hrel
    have hlen : (docsStr s (s.ids.take q)).length ≤ 360 := by
      have h1 := docsStr_len HH.out.1 (s.ids.take q)
      have h2 : (s.ids.take q).length ≤ s.ids.length := by simp; omega
      have h3 := HH.out.1.size; omega
    by_cases hlt : q < n
    · have hql : q < s.ids.length := by rw [HN.out]; exact hlt
      have HM0 : Hid (MidI w F b s (.slice a0 n cap) wr) := hM
      obtain ⟨⟨v, hM1⟩, hM2⟩ := hM
      obtain ⟨m0, -, -, mbl⟩ := hM1.cells
      obtain ⟨a1, cap1, hD1, -, hdd⟩ := hM1.docs
      obtain ⟨g, hg1, -, hFg, k0, k1, k2⟩ := hdd q hql
      simp only [Value.slice.injEq] at hD1
      obtain ⟨rfl, -, -⟩ := hD1
      subst hg1
      have hd1 : (q : Int) < (n : Int) := by omega
      have hmem : s.ids[q] ∈ s.ids := List.getElem_mem hql
      have hSt : s.ids.take (q + 1) = s.ids.take q ++ [s.ids[q]] := take_snoc _ _ hql
      generalize s.ids[q] = id at *
      obtain ⟨d, hd⟩ := Option.isSome_iff_exists.1 ((mem_ids HH.out.1 id).1 hmem)
      have hdm := HH.out.1.dom id d hd
      have HK : Hid (docsStr s (s.ids.take (q + 1)) = docsStr s (s.ids.take q) ++ itoa id.toNat ++ [47] ++ itoa d.group.toNat ++ [47] ++ d.text ++ [59]) := by
        show _ = _
        rw [hSt, docsStr_snoc, docStr, groupOf_some hd, textOf_some hd]; simp
      rw [groupOf_some hd] at k1
      rw [textOf_some hd] at k2
      obtain ⟨⟨i1, i2⟩, ⟨g1, g2⟩, t1, -⟩ := hdm
      have b1 := itoa_len id.toNat
      have b2 := itoa_len d.group.toNat
      obtain ⟨dg, dt⟩ := d
      simp only [] at k1 k2 g1 g2 t1 b2 HK
      have HFR : Hid (Fr No wr wr) := Fr.refl _ _
      clear hd hmem hSt hql hM1 hM2 hdd
      go_wp2_with (go_at_call 48; refine (itoa_any _ (by omega) (by omega) _).mono ?_
                   rintro e w' ⟨rfl, hfr'⟩
                   have m0 := frNo_cell hfr' m0
                   have k1 := frNo_cell hfr' k1
                   have k2 := frNo_cell hfr' k2
                   have HFR : Hid (Fr No wr w') := HFR.out.trans hfr'
                   clear hfr')
      go_roundw
      case rel => exact ⟨q + 1, by omega, by go_num, by rw [HK.out]; simp only [← str_append]; rfl, HM0.out.fr HFR.out⟩
      case measure => simp [intOf]; omega
    · have HT : Hid (docsStr s (s.ids.take q) = docsStr s s.ids) := by
        show _ = _
        rw [List.take_of_length_le (by rw [HN.out]; omega)]
      generalize docsStr s (s.ids.take q) = T0 at *
      obtain ⟨⟨v, hM1⟩, hM2⟩ := hM
      obtain ⟨m0, -, -, mbl⟩ := hM1.cells
      have hd1 : ¬ (q : Int) < (n : Int) := by omega
      have HR : Hid (Calls Tryz.prog 46 #[.slice (some ⟨b, 2, none⟩) 9 9] wr fun e w' => e = .returned (.string (str (ints s.revL))) ∧ Fr No wr w') := ints_any _ s.revL wr hM1.revSl (fun x hx => by have h1 := revL_mem HH.out.1 x hx; have := HH.out.2; omega) (by simp [St.revL, idsAll])
      have HM1 : Hid (MS wr F b s ∧ Fr F w wr) := ⟨hM1.MS, hM2⟩
      have hrl : (ints s.revL).length ≤ 1000 := by
        have := show_len HH.out.1
        unfold St.show at this
        simp only [List.length_append] at this
        omega
      generalize hRL : ints s.revL = R0 at *
      have HRL : Hid (ints s.revL = R0) := hRL
      clear hM1 hM2 hRL
      go_wp2_with (go_at_call 46; refine HR.out.mono ?_; rintro e w2 ⟨rfl, f2⟩
                   have HM2 : Hid (MS w2 F b s ∧ Fr F w w2) := ⟨HM1.out.1.frNo f2, HM1.out.2.trans f2.any⟩
                   clear f2)
      go_loopw [8, 9] (fun l k wr => ∃ q : Nat, q ≤ 3 ∧ k = .int .i64 q ∧ MS wr F b s ∧ Fr F w wr ∧ wr.ownsRow w.heap.size 3 1 l q ((s.grpL.take q).map (Value.int .i64))) (fun _ k _ => 3 - (intOf k).toNat)
      case atStart => exact ⟨0, Nat.zero_le _, rfl, HM2.out.1, HM2.out.2, own_nil _ _ _ _⟩
      case round =>
        obtain ⟨q, hq, rfl, hM, hFr, ho⟩ := hrel
        by_cases hlt : q < 3
        · have hle : decide ((q : Int) ≤ 2) = true := by simp; omega
          have hle2 : (q : Int) ≤ 2 := by omega
          have hle3 : decide (q ≤ 2) = true := by simp; omega
          have HG : Hid (Calls Tryz.prog 99 #[.pointer (some ⟨b, 0, none⟩), .int .i64 (q : Int)] wr (MAsk wr F b s (.int .i64 (s.cnt (q : Int) : Int)))) := mInGroup_any b F s wr q hM (by have := HH.out.1.size; omega)
          have HT2 : Hid ((s.grpL.take (q + 1)).map (Value.int .i64) = (s.grpL.take q).map (Value.int .i64) ++ [.int .i64 (s.cnt (q : Int) : Int)]) := by
            rw [Hid, grpL_take s q hlt, List.map_append]; rfl
          have HO : Hid (wr.ownsRow w.heap.size 3 1 u8 q ((s.grpL.take q).map (Value.int .i64)) ∧ Fr F w wr) := ⟨ho, hFr⟩
          obtain ⟨i0, hi, hz0, hz1, hz2⟩ := info_parts info3
          generalize s.cnt (q : Int) = cq at *
          clear hM hFr ho
          go_wp2_with first
            | (go_at_call 99; refine HG.out.mono ?_; rintro e w3 ⟨rfl, hM3, f3⟩
               have ho3 : w3.ownsRow w.heap.size 3 1 u8 q ((s.grpL.take q).map (Value.int .i64)) := own_fr2 HO.out.1 f3 (fun k hk e => by have := own_ge HO.out.1 hk; have := HF.out k e; omega)
               have HM3 : Hid (MS w3 F b s ∧ Fr F w w3) := ⟨hM3, HO.out.2.trans f3⟩
               have hs3 := HM3.out.2.size
               clear hM3 f3)
            | (at_builtin; refine wpList_append_own_at _ rfl _ _ 55 rfl w.heap.size 3 i0 (.int .i64 0) 1 8 Tryz.underlying55 hi hz0 hz1 hz2 rfl (by decide) u8 q _ rfl (ho3.alloc _) ⟨w3.heap.size, 0, none⟩ 1 1 [.int .i64 (cq : Int)] rfl rfl (cell_one_new _ _ _) (by intro u hu; simp only [List.mem_singleton] at hu; subst hu; rfl) (by unfold maxLen; omega) (by omega) (by simp; omega) ?_
               intro v' w4 ho4 hg4 hnil4 hloc
               have HK : Hid (MS w4 F b s ∧ Fr F w w4 ∧ w4.ownsRow w.heap.size 3 1 v' (q + 1) ((s.grpL.take (q + 1)).map (Value.int .i64))) := by
                 obtain ⟨D5, a5, h5⟩ := HM3.out.1
                 exact ⟨(grow_ms h5 HF.out ho3 (Nat.le_refl _) hg4).MS, grow_fr HM3.out.2 ho3 (Nat.le_refl _) hg4, by rw [HT2.out]; exact ho4⟩
               clear ho4 hg4 hloc)
          go_roundw
          case rel => exact ⟨q + 1, by omega, by go_num, HK.out.1, HK.out.2.1, HK.out.2.2⟩
          case measure => simp [intOf]; omega
        · have hq3 : q = 3 := by omega
          have hl3 : s.grpL.length = 3 := by simp [St.grpL]
          have hle : decide ((q : Int) ≤ 2) = false := by simp; omega
          have hle2 : ¬ (q : Int) ≤ 2 := by omega
          have hle3 : decide (q ≤ 2) = false := by simp; omega
          have HGS : Hid (Calls Tryz.prog 46 #[u8] wr fun e w' => e = .returned (.string (str (ints s.grpL))) ∧ Fr No wr w') := by
            rw [hq3, List.take_of_length_le (by omega)] at ho
            exact ints_any _ s.grpL wr (own_sl ho) (fun x hx => by have h1 := grpL_mem s x hx; omega) (by omega)
          have HM5 : Hid (MS wr F b s ∧ Fr F w wr) := ⟨hM, hFr⟩
          have hgl : (ints s.grpL).length ≤ 1000 := by
            have := show_len HH.out.1
            unfold St.show at this
            simp only [List.length_append] at this
            omega
          have HE : Hid (s.show = T0 ++ [124] ++ R0 ++ [124] ++ ints s.grpL) := by rw [Hid, HT.out, ← HRL.out]; rfl
          generalize ints s.grpL = G0 at *
          clear hM hFr ho
          go_wp2_with (go_at_call 46; refine HGS.out.mono ?_; rintro e w6 ⟨rfl, f6⟩)
          go_ret
          exact ⟨by rw [HE.out]; simp only [← str_append]; rfl, HM5.out.1.frNo f6, HM5.out.2.trans f6.any⟩
end
end Go.Proofs.Qxb6500357aGreat
