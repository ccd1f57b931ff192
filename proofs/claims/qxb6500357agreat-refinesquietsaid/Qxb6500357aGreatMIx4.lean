/- The model's index: Show. -/
import Derived.Test.Qxb6500357aGreatMIx3
import Derived.Test.Qxb6500357aGreatIxShow
namespace Go.Proofs.Qxb6500357aGreat
open Go.RowKit Go.Tag
set_option linter.unusedVariables false
set_option linter.unusedSimpArgs false
set_option maxRecDepth 100000
attribute [local simp] str_size
attribute [local go_sem] str_size
/-- The tally's state, over the model. -/
def MTally (w4 : World) (F : Nat → Prop) (x b : Nat) (s : St) (u : Word) (j : Nat) (v : Value) (wr : World) : Prop :=
  MX wr F x b s ∧ Fr (FX F x) w4 wr ∧ wr.ownsRow w4.heap.size 3 1 v j (((tallyL s u).take j).map (Value.int .i64))
theorem grow_mx {w wr w' : World} {F : Nat → Prop} {x b : Nat} {s : St} (h : MX wr F x b s) {w0 base n size : Nat} {e : TypeId} {v : Value} {xs : List Value} (hF : ∀ k, FX F x k → k < w0) (ho : wr.ownsRow base e size v n xs) (hb : w0 ≤ base) {o : Obj} (hg : (wr.alloc o).grownBy w' v.ownBlock) : MX w' F x b s :=
  h.fr (S := fun k => v.ownBlock = some k) (((Fr.refl (fun k => v.ownBlock = some k) wr).alloc o).grown hg (fun k hk => .inr hk)) (fun k hk e => by have := own_ge ho e; have := hF k hk; omega)
section
variable (x b : Nat) (F : Nat → Prop) (s : St) (B : Int) (w : World)
set_option maxHeartbeats 2000000 in
theorem mxShow_any (h : MX w F x b s) (hf : Fine s B) (hB : B < 1000000000000000000) : Calls Tryz.prog 43 #[.pointer (some ⟨x, 0, none⟩)] w (MXAsk w F x b s (.string (str (ixShow s)))) := by
  have HL : Hid (∀ k, FX F x k → k < w.heap.size) := h.lt
  have HFI : Hid (Fine s B) := hf
  obtain ⟨ax, h⟩ := h
  obtain ⟨c0, -, -, hxl⟩ := h.cells
  have HC : Hid (Calls Tryz.prog 78 #[.pointer (some ⟨b, 0, none⟩)] w (MXAsk w F x b s (.string (str s.show)))) := (mShow_any b F s B w h.st hf hB).mono fun e w' ⟨h1, h2, h3⟩ => ⟨h1, ⟨ax, h.ofS h2 h3⟩, fr_FX h3⟩
  have hsl := show_len hf
  have hwl := words_len hf
  obtain ⟨n, hn⟩ : ∃ n, s.words.length = n := ⟨_, rfl⟩
  have HN : Hid (s.words.length = n) := hn
  rw [hn] at hwl
  clear h hn hf hB
  go_enter Tryz.func43, Tryz.ntmps43
  go_wp2_with first
    | (go_at_call 78; refine HC.out.mono ?_; rintro e w1 ⟨rfl, hM1, f1⟩)
    | (go_at_call 74; refine (mxWords_any x b F s B w1 hM1 HFI.out).mono ?_; rintro e w2 ⟨v, rfl, hsv, hbv, hM2, f2⟩
       have HM2 : Hid (MX w2 F x b s ∧ Fr (FX F x) w w2 ∧ SlB w.heap.size v) := ⟨hM2, f1.trans f2, fun k hk => Nat.le_trans f1.size (hbv k hk)⟩
       obtain ⟨ao, cap, rfl, hcl⟩ := hsv.sl
       simp only [List.length_map, HN.out] at HM2 ⊢
       clear hsv hbv hM1 f1 hM2 f2)
  have HCL : Hid (∀ j (hj : j < s.words.length), ∃ g o, ao = some ⟨g, o, none⟩ ∧ ¬ FX F x g ∧ w2.cell? ⟨g, o + j, none⟩ = some (.string (str s.words[j]))) := fun j hj => by
    obtain ⟨g, o, e1, e2⟩ := hcl j (.string (str s.words[j])) (by simp [hj])
    refine ⟨g, o, e1, fun e => ?_, e2⟩
    have h1 := HL.out g e
    have h2 := HM2.out.2.2 g (by rw [e1]; rfl)
    omega
  clear hcl
  go_loopw [3, 5] (fun t i wr => ∃ j : Nat, j ≤ n ∧ i = .int .i64 j ∧ t = .string (str (s.show ++ [35] ++ (s.words.take j).flatMap (wordStr s))) ∧ MX wr F x b s ∧ Fr (FX F x) w2 wr) (fun _ i _ => n - (intOf i).toNat)
  case atStart => exact ⟨0, Nat.zero_le _, rfl, by simp only [List.take_zero, List.flatMap_nil, List.append_nil, ← str_append]; rfl, HM2.out.1, Fr.refl _ _⟩
  case round =>
    obtain ⟨j, hj, rfl, rfl, hMr, hF2⟩ := hrel
    by_cases hlt : j < n
    · have hjl : j < s.words.length := by rw [HN.out]; exact hlt
      obtain ⟨g, off, rfl, hng, hc0⟩ := HCL.out j hjl
      have hc0 := hF2.cell hc0 hng
      have hd1 : (j : Int) < (n : Int) := by omega
      have hu12 := word_short HFI.out s.words[j] (List.getElem_mem hjl)
      have HK : Hid (s.show ++ [35] ++ (s.words.take (j + 1)).flatMap (wordStr s) = s.show ++ [35] ++ (s.words.take j).flatMap (wordStr s) ++ s.words[j] ++ [61] ++ ints (s.holders s.words[j]) ++ [64] ++ ints (tallyL s s.words[j]) ++ [59]) := by
        show _ = _
        rw [take_snoc _ _ hjl, List.flatMap_append]
        simp [wordStr]
      have hlen : (s.show ++ [35] ++ (s.words.take j).flatMap (wordStr s)).length ≤ 40000 := by
        have h1 := wordsStr_len HFI.out (s.words.take j) (fun u hu => word_short HFI.out u (List.mem_of_mem_take hu))
        have h2 : (s.words.take j).length ≤ n := by simp; omega
        simp only [List.length_append, List.length_singleton]; omega
      generalize s.words[j] = u at *
      generalize s.show ++ [35] ++ (s.words.take j).flatMap (wordStr s) = T0 at *
      have HD : Hid (Calls Tryz.prog 71 #[.pointer (some ⟨x, 0, none⟩), .string (str u)] wr (MXInts wr F x b s (s.holders u))) := mxDocs_any x b F s B wr u hMr HFI.out
      have HW : Hid (Fr (FX F x) w2 wr) := hF2
      obtain ⟨wo, hwo⟩ : ∃ wo, wo = wr := ⟨_, rfl⟩
      subst hwo
      clear hjl hF2 hMr
      go_wp2_with (go_at_call 71; refine HD.out.mono ?_; rintro e w4 ⟨v6, rfl, hown6, hM4, f4, -⟩)
      have hwo2 : w.heap.size ≤ wo.heap.size := Nat.le_trans HM2.out.2.1.size HW.out.size
      have HW4 : Hid (Fr (FX F x) w2 w4 ∧ w4.ownsRow wo.heap.size 3 1 v6 (s.holders u).length ((s.holders u).map (Value.int .i64)) ∧ MX w4 F x b s ∧ w.heap.size ≤ w4.heap.size) := ⟨HW.out.trans f4, hown6, hM4, Nat.le_trans hwo2 f4.size⟩
      have hc4 := f4.cell hc0 hng
      clear HW hown6 f4 hM4 hc0
      go_loopw [7, 8] (fun v7 i wr' => ∃ k : Nat, k ≤ 3 ∧ i = .int .i64 k ∧ MTally w4 F x b s u k v7 wr') (fun _ i _ => 3 - (intOf i).toNat)
      case atStart => exact ⟨0, by omega, rfl, HW4.out.2.2.1, Fr.refl _ _, own_nil _ _ _ _⟩
      case round =>
        obtain ⟨k, hk, rfl, hI⟩ := hrel
        have hc5 := hI.2.1.cell hc4 hng
        by_cases hlt3 : k < 3
        · have hle : decide ((k : Int) ≤ 2) = true := by simp; omega
          have hle2 : (k : Int) ≤ 2 := by omega
          have hle3 : decide (k ≤ 2) = true := by simp; omega
          have HT : Hid (Calls Tryz.prog 73 #[.pointer (some ⟨x, 0, none⟩), .int .i64 (k : Int), .string (str u)] wr (MXAsk wr F x b s (.int .i64 (cntBy (hasOf s) s.groupOf ((k : Int), u) : Int)))) := mxTally_any x b F s B wr k u hI.1 HFI.out (by omega)
          have HT2 : Hid (((tallyL s u).take (k + 1)).map (Value.int .i64) = ((tallyL s u).take k).map (Value.int .i64) ++ [.int .i64 (cntBy (hasOf s) s.groupOf ((k : Int), u) : Int)]) := by
            rw [Hid, tallyL_take s u k hlt3, List.map_append]; rfl
          have HO : Hid (MTally w4 F x b s u k u7 wr) := hI
          obtain ⟨i0, hi, hz0, hz1, hz2⟩ := info_parts info3
          generalize cntBy (hasOf s) s.groupOf ((k : Int), u) = cq at *
          clear hI
          go_wp2_with first
            | (go_at_call 73; refine HT.out.mono ?_; rintro e w5 ⟨rfl, hM5, f5⟩
               have ho5 : w5.ownsRow w4.heap.size 3 1 u7 k (((tallyL s u).take k).map (Value.int .i64)) := own_fr2 HO.out.2.2 f5 (fun k hk e => by have := own_ge HO.out.2.2 hk; have := HL.out k e; have := HW4.out.2.2.2; omega)
               have HM5 : Hid (MX w5 F x b s ∧ Fr (FX F x) w4 w5) := ⟨hM5, HO.out.2.1.trans f5⟩
               have hs5 := HM5.out.2.size
               clear hM5 f5)
            | (at_builtin; refine wpList_append_own_at _ rfl _ _ 55 rfl w4.heap.size 3 i0 (.int .i64 0) 1 8 Tryz.underlying55 hi hz0 hz1 hz2 rfl (by decide) u7 k _ rfl (ho5.alloc _) ⟨w5.heap.size, 0, none⟩ 1 1 [.int .i64 (cq : Int)] rfl rfl (cell_one_new _ _ _) (by intro u hu; simp only [List.mem_singleton] at hu; subst hu; rfl) (by unfold maxLen; omega) (by omega) (by simp; omega) ?_
               intro v' w6 ho6 hg6 hnil6 hloc
               have HKK : Hid (MTally w4 F x b s u (k + 1) v' w6) := ⟨grow_mx (w := w) HM5.out.1 HL.out ho5 HW4.out.2.2.2 hg6, grow_fr HM5.out.2 ho5 (Nat.le_refl _) hg6, by rw [HT2.out]; exact ho6⟩
               clear ho6 hg6 hloc)
          go_roundw
          case rel => exact ⟨k + 1, by omega, by go_num, HKK.out⟩
          case measure => simp [intOf]; omega
        · obtain rfl : k = 3 := by omega
          have hT3 : (tallyL s u).take 3 = tallyL s u := List.take_of_length_le (by rw [tallyL_len]; omega)
          have l3 : (s.holders u).length ≤ 9 := List.length_filter_le _ idsAll
          have HC1 : Hid (Calls Tryz.prog 46 #[v6] wr fun e w' => e = .returned (.string (str (ints (s.holders u)))) ∧ Fr No wr w') := ints_any v6 (s.holders u) wr (own_sl (own_fr2 HW4.out.2.1 hI.2.1 (fun k hk e => by have := own_ge HW4.out.2.1 hk; have := HL.out k e; omega))) (holders_num s u) (by omega)
          have HS7 : Hid (Sl wr u7 ((tallyL s u).map (Value.int .i64))) := by have := own_sl hI.2.2; rw [hT3] at this; exact this
          have HMw : Hid (MX wr F x b s ∧ Fr (FX F x) w2 wr) := ⟨hI.1, HW4.out.1.trans hI.2.1⟩
          have l1 := ints_len (s.holders u)
          have l2 := ints_len (tallyL s u)
          rw [tallyL_len] at l2
          have HTN : Hid ((∀ n ∈ tallyL s u, 0 ≤ n ∧ n < 1000000000000000000) ∧ (tallyL s u).length ≤ 1000) := ⟨tallyL_mem s u, by rw [tallyL_len]; omega⟩
          clear hI hT3
          go_wp2_with (go_at_call 46
                       first
                         | (refine (HC2.out).mono ?_
                            rintro e w6 ⟨rfl, f6⟩
                            have hc7 := frNo_cell f6 hc6)
                         | (refine (HC1.out).mono ?_
                            rintro e w5 ⟨rfl, f5⟩
                            have hc6 := frNo_cell f5 hc5
                            have HC2 : Hid (Calls Tryz.prog 46 #[u7] w5 fun e w' => e = .returned (.string (str (ints (tallyL s u)))) ∧ Fr No w5 w') := ints_any u7 (tallyL s u) w5 (HS7.out.fr f5) HTN.out.1 HTN.out.2))
          go_roundw
          case rel => exact ⟨j + 1, by omega, by go_num, by rw [HK.out]; simp only [← str_append]; rfl, HMw.out.1.frNo (f5.trans f6), HMw.out.2.trans (f5.trans f6).any⟩
          case measure => simp [intOf]; omega
    · have HE : Hid (ixShow s = s.show ++ [35] ++ (s.words.take j).flatMap (wordStr s)) := by
        show _ = _
        rw [List.take_of_length_le (by rw [HN.out]; omega)]; rfl
      have HMw : Hid (MX wr F x b s ∧ Fr (FX F x) w wr) := ⟨hMr, HM2.out.2.1.trans hF2⟩
      have hd1 : ¬ (j : Int) < (n : Int) := by omega
      clear hF2 hMr
      generalize s.show ++ [35] ++ (s.words.take j).flatMap (wordStr s) = T9 at *
      go_wp2
      go_ret
      exact ⟨by rw [HE.out]; rfl, HMw.out.1, HMw.out.2⟩
end
end Go.Proofs.Qxb6500357aGreat
