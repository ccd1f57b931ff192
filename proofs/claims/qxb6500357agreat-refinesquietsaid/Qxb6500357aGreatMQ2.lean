/- The model's query: Groups, Top. -/
import Derived.Test.Qxb6500357aGreatMQ
import Derived.Test.Qxb6500357aGreatTopsPlain
import Derived.Deep.RegionHeld3
namespace Go.Tag
open Go.RowKit Go.Proofs.Qxb6500357aGreat
set_option linter.unusedVariables false
set_option linter.unusedSimpArgs false
/-- What has been taken, of K at most, behind i words of frequency 6 - k. -/
def tookK (K : Nat) (c : Word → Nat) (ws : List Word) (k i : Nat) : List Word := (preN c ws k ++ blk c (ws.take i) (6 - k)).take K
section
variable (K : Nat)
theorem tookK_zero (c : Word → Nat) (ws : List Word) (k : Nat) : tookK K c ws k 0 = (preN c ws k).take K := by unfold tookK blk; simp
theorem tookK_le (c : Word → Nat) (ws : List Word) (k i : Nat) : (tookK K c ws k i).length ≤ K := by unfold tookK; simp; omega
theorem tookK_all (c : Word → Nat) (ws : List Word) (k i : Nat) (h : ws.length ≤ i) : tookK K c ws k i = (preN c ws (k + 1)).take K := by
  unfold tookK; rw [List.take_of_length_le h]; rfl
theorem take_preK {α : Type} {X Y : List α} (h : (X.take K).length = K) : (X ++ Y).take K = X.take K := by
  rw [List.length_take] at h
  exact List.take_append_of_le_length (by omega)
theorem tookK_full (c : Word → Nat) (ws : List Word) (k i : Nat) (h : (tookK K c ws k i).length = K) : tookK K c ws k i = (preN c ws (k + 1)).take K := by
  unfold tookK at h ⊢
  rw [preN, blk_split c ws i (6 - k), ← List.append_assoc, take_preK K h]
theorem tookK_yes (c : Word → Nat) (ws : List Word) (k i : Nat) (hi : i < ws.length) (h : (tookK K c ws k i).length < K) (hc : c ws[i] = 6 - k) : tookK K c ws k (i + 1) = tookK K c ws k i ++ [ws[i]] := by
  unfold tookK at h ⊢
  rw [List.length_take] at h
  have e : blk c (ws.take (i + 1)) (6 - k) = blk c (ws.take i) (6 - k) ++ [ws[i]] := by
    unfold blk; rw [take_snoc ws i hi, List.filter_append]; simp [hc]
  rw [e, ← List.append_assoc]
  generalize preN c ws k ++ blk c (ws.take i) (6 - k) = X at *
  have hX : X.length < K := by omega
  rw [List.take_of_length_le (l := X ++ [ws[i]]) (by simp; omega), List.take_of_length_le (l := X) (by omega)]
theorem tookK_no (c : Word → Nat) (ws : List Word) (k i : Nat) (hi : i < ws.length) (hc : ¬ c ws[i] = 6 - k) : tookK K c ws k (i + 1) = tookK K c ws k i := by
  unfold tookK
  have e : blk c (ws.take (i + 1)) (6 - k) = blk c (ws.take i) (6 - k) := by
    unfold blk; rw [take_snoc ws i hi, List.filter_append]; simp [hc]
  rw [e]
end
end Go.Tag
namespace Go.Proofs.Qxb6500357aGreat
open Go.RowKit Go.Tag
set_option linter.unusedVariables false
set_option linter.unusedSimpArgs false
set_option maxRecDepth 100000
attribute [local simp] str_size
attribute [local go_sem] str_size
def MXCountsErr (w : World) (F : Nat → Prop) (x b : Nat) (s : St) (L : List (Int × Int)) (er : Int) (e : Ending) (w' : World) : Prop := ∃ v, e = .returned (.tuple #[v, .int .i64 er]) ∧ w'.ownsRow w.heap.size 101 2 v L.length (cells2 L) ∧ MX w' F x b s ∧ Fr (FX F x) w w' ∧ (L = [] → v = .slice none 0 0)
def MXStrsErr (w : World) (F : Nat → Prop) (x b : Nat) (s : St) (L : List Word) (er : Int) (e : Ending) (w' : World) : Prop := ∃ v, e = .returned (.tuple #[v, .int .i64 er]) ∧ w'.ownsRow w.heap.size 9 1 v L.length (L.map vStr) ∧ MX w' F x b s ∧ Fr (FX F x) w w' ∧ (L = [] → v = .slice none 0 0)
structure GrpM (w : World) (F : Nat → Prop) (x b : Nat) (s : St) (u : Word) (q : Nat) (v : Value) (wr : World) : Prop where
  ix : MX wr F x b s
  fr : Fr (FX F x) w wr
  own : wr.ownsRow w.heap.size 101 2 v (groupsTo s u q).length (cells2 (groupsTo s u q))
  nil : groupsTo s u q = [] → v = .slice none 0 0
/-- The top's state: L has been taken. -/
structure TopM (w1 : World) (F : Nat → Prop) (x b : Nat) (s : St) (L : List Word) (v : Value) (wr : World) : Prop where
  ix : MX wr F x b s
  fr : Fr (FX F x) w1 wr
  own : wr.ownsRow w1.heap.size 9 1 v L.length (L.map vStr)
  nil : L = [] → v = .slice none 0 0
section
variable (y x b : Nat) (F : Nat → Prop) (s : St) (B : Int) (w : World)
set_option maxHeartbeats 2000000 in
theorem mqGroups_any (u : Word) (h : MQ w F y x b s) (hf : Fine s B) : Calls Tryz.prog 39 #[.pointer (some ⟨y, 0, none⟩), .string (str u)] w (MXCountsErr w F x b s (groupsL s u) (groupsErr u)) := by
  by_cases hu : 12 < u.length
  · have HE : Hid (MXCountsErr w F x b s (groupsL s u) (groupsErr u) (.returned (.tuple #[.slice none 0 0, .int .i64 1])) w) := by
      unfold groupsL groupsErr
      rw [if_pos hu, if_pos hu]
      exact ⟨_, rfl, own_nil _ _ _ _, h.ix, Fr.refl _ _, fun _ => rfl⟩
    have hd : decide ((12 : Int) < (u.length : Int)) = true := by simp; omega
    clear h hf
    go_enter Tryz.func39, Tryz.ntmps39
    go_wp2
    refine bodyPost_ret (v := .tuple #[.slice none 0 0, .int .i64 1]) (by simp [results, Tryz.results39, go_sem]) rfl HE.out
  have hd : decide ((12 : Int) < (u.length : Int)) = false := by simp; omega
  have HLE : Hid (groupsL s u = groupsTo s u 3 ∧ groupsErr u = 0) := by
    unfold groupsL groupsErr
    exact ⟨by rw [if_neg hu], by rw [if_neg hu]⟩
  have HL : Hid (∀ k, FX F x k → k < w.heap.size) := h.ix.lt
  have HNE : Hid (¬ FX F x y) := h.ne
  have HFI : Hid (Fine s B) := hf
  obtain ⟨c0, hyl⟩ := h.cell
  have H0 : Hid (GrpM w F x b s u 0 (.slice none 0 0) w) := ⟨h.ix, Fr.refl _ _, own_nil _ _ _ _, fun _ => rfl⟩
  clear h hf
  go_enter Tryz.func39, Tryz.ntmps39
  go_wp2
  go_loopw [6, 7] (fun l i wr => ∃ q : Nat, q ≤ 3 ∧ i = .int .i64 q ∧ GrpM w F x b s u q l wr) (fun _ i _ => 3 - (intOf i).toNat)
  case atStart => exact ⟨0, by omega, rfl, H0.out⟩
  case round =>
    obtain ⟨q, hq, rfl, hI⟩ := hrel
    by_cases hlt : q < 3
    · have hle : decide ((q : Int) ≤ 2) = true := by simp; omega
      have hle2 : (q : Int) ≤ 2 := by omega
      have hle3 : decide (q ≤ 2) = true := by simp; omega
      have cr := hI.fr.cell c0 HNE.out
      have hyr : y < wr.heap.size := Nat.lt_of_lt_of_le hyl hI.fr.size
      have HT : Hid (Calls Tryz.prog 73 #[.pointer (some ⟨x, 0, none⟩), .int .i64 (q : Int), .string (str u)] wr (MXAsk wr F x b s (.int .i64 (tally s u (q : Int) : Int)))) := mxTally_any x b F s B wr q u hI.ix HFI.out (by omega)
      have hsucc := groupsTo_succ s u q hlt
      have hgl := groupsTo_len s u q
      have htl := cntBy_le (hasOf s) s.groupOf ((q : Int), u)
      have htl2 : tally s u (q : Int) ≤ 9 := htl
      have HP : Hid (GrpM w F x b s u q u6 wr) := hI
      clear hI htl
      by_cases h0 : tally s u (q : Int) = 0
      · rw [if_pos h0, List.append_nil] at hsucc
        have HSU : Hid (groupsTo s u (q + 1) = groupsTo s u q) := hsucc
        rw [h0] at HT
        clear hsucc h0
        go_wp2_with (go_at_call 73; refine HT.out.mono ?_; rintro e w5 ⟨rfl, hM5, f5⟩
                     have HK : Hid (GrpM w F x b s u (q + 1) u6 w5) := ⟨hM5, HP.out.fr.trans f5, by rw [HSU.out]; exact own_fr2 HP.out.own f5 (fun k hk e => by have := own_ge HP.out.own hk; have := HL.out k e; omega), by rw [HSU.out]; exact HP.out.nil⟩
                     clear hM5 f5)
        go_roundw
        case rel => exact ⟨q + 1, by omega, by go_num, HK.out⟩
        case measure => simp [intOf]; omega
      · rw [if_neg h0] at hsucc
        have HSU : Hid (groupsTo s u (q + 1) = groupsTo s u q ++ [((q : Int), (tally s u (q : Int) : Int))]) := hsucc
        have HCE : Hid (cells2 (groupsTo s u (q + 1)) = cells2 (groupsTo s u q) ++ [.int .i64 (q : Int), .int .i64 (tally s u (q : Int) : Int)]) := by rw [Hid, hsucc]; simp [cells2]
        have hpos : decide ((0 : Int) < (tally s u (q : Int) : Int)) = true := by simp; omega
        have hpos2 : (0 : Int) < (tally s u (q : Int) : Int) := by omega
        have hpos3 : decide (0 < tally s u (q : Int)) = true := by simp; omega
        obtain ⟨m, hm⟩ : ∃ m, (groupsTo s u q).length = m := ⟨_, rfl⟩
        have HMM : Hid ((groupsTo s u q).length = m) := hm
        rw [hm] at hgl
        obtain ⟨i0, hi, hz0, hz1, hz2⟩ := info_parts info90
        generalize tally s u (q : Int) = tl at *
        clear hsucc h0 hm
        go_wp2_with first
          | (go_at_call 73; refine HT.out.mono ?_; rintro e w5 ⟨rfl, hM5, f5⟩
             have ho5 : w5.ownsRow w.heap.size 101 2 u6 m (cells2 (groupsTo s u q)) := by rw [← HMM.out]; exact own_fr2 HP.out.own f5 (fun k hk e => by have := own_ge HP.out.own hk; have := HL.out k e; omega)
             have HM5 : Hid (MX w5 F x b s ∧ Fr (FX F x) w w5) := ⟨hM5, HP.out.fr.trans f5⟩
             have hs5 := HM5.out.2.size
             clear hM5 f5)
          | (at_builtin; refine wpList_append_own_at _ rfl _ _ 59 rfl w.heap.size 101 i0 (.agg #[.int .i64 0, .int .i64 0]) 2 16 Tryz.underlying59 hi hz0 hz1 hz2 rfl (by decide) u6 m _ rfl (ho5.alloc _) ⟨w5.heap.size, 0, none⟩ 1 1 [.int .i64 (q : Int), .int .i64 (tl : Int)] rfl rfl (cell_two_new _ _ _ _) (by intro u hu; simp only [List.mem_cons, List.not_mem_nil, or_false] at hu; rcases hu with rfl | rfl <;> rfl) (by unfold maxLen; omega) (by omega) (by simp; omega) ?_
             intro v' w6 ho6 hg6 hnil6 hloc
             have HK : Hid (GrpM w F x b s u (q + 1) v' w6) := ⟨grow_mx (w := w) HM5.out.1 HL.out ho5 (Nat.le_refl _) hg6, grow_fr HM5.out.2 ho5 (Nat.le_refl _) hg6, by rw [HCE.out, HSU.out, List.length_append, HMM.out]; exact ho6, fun e => by rw [HSU.out] at e; simp at e⟩
             clear ho6 hg6 hloc)
        go_roundw
        case rel => exact ⟨q + 1, by omega, by go_num, HK.out⟩
        case measure => simp [intOf]; omega
    · have hq3 : q = 3 := by omega
      have HE : Hid (MXCountsErr w F x b s (groupsL s u) (groupsErr u) (.returned (.tuple #[u6, .int .i64 0])) wr) := by
        rw [HLE.out.1, HLE.out.2]
        subst hq3
        exact ⟨u6, rfl, hI.own, hI.ix, hI.fr, hI.nil⟩
      have hle : decide ((q : Int) ≤ 2) = false := by simp; omega
      have hle2 : ¬ (q : Int) ≤ 2 := by omega
      have hle3 : decide (q ≤ 2) = false := by simp; omega
      clear hI
      go_wp2
      refine bodyPost_ret (v := .tuple #[u6, .int .i64 0]) (by simp [results, Tryz.results39, go_sem]) rfl HE.out

set_option maxHeartbeats 4000000 in
theorem mqTop_good (K : Nat) (hK : K ≤ 4) (h : MQ w F y x b s) (hf : Fine s B) : Calls Tryz.prog 40 #[.pointer (some ⟨y, 0, none⟩), .int .i64 (K : Int)] w (MXStrsErr w F x b s ((rankL (cntW (hasOf s)) s.words).take K) 0) := by
  have HL : Hid (∀ k, FX F x k → k < w.heap.size) := h.ix.lt
  have HNE : Hid (¬ FX F x y) := h.ne
  have HFI : Hid (Fine s B) := hf
  obtain ⟨c0, hyl⟩ := h.cell
  have HWD : Hid (Calls Tryz.prog 74 #[.pointer (some ⟨x, 0, none⟩)] w (MXWords w F x b s s.words)) := mxWords_any x b F s B w h.ix hf
  have HFQ : Hid (∀ W u, MX W F x b s → Calls Tryz.prog 75 #[.pointer (some ⟨x, 0, none⟩), .string (str u)] W (MXAsk W F x b s (.int .i64 (cntW (hasOf s) u : Int)))) := fun W u hW => mxFreq_any x b F s B W u hW hf
  have HRK : Hid (preN (cntW (hasOf s)) s.words 6 = rankL (cntW (hasOf s)) s.words) := preN_six _ _ (words_sorted s) (fun u hu => cntW_six hf u hu)
  have hwl := words_len hf
  have k1 : decide ((K : Int) < 0) = false := by simp
  have k2 : decide ((4 : Int) < (K : Int)) = false := by simp; omega
  have k2' : ¬ (4 : Int) < (K : Int) := by omega
  have k3 : decide (4 < K) = false := by simp; omega
  rw [← HRK.out]
  generalize cntW (hasOf s) = c at *
  generalize s.words = ws at *
  obtain ⟨n, hn⟩ : ∃ n, ws.length = n := ⟨_, rfl⟩
  have HN : Hid (ws.length = n) := hn
  rw [hn] at hwl
  clear h hf hn HRK
  go_enter Tryz.func40, Tryz.ntmps40
  go_wp2_with (go_at_call 74; refine HWD.out.mono ?_; rintro e w1 ⟨v6, rfl, hsl, hbv, hM1, f1⟩
               have HB6 : Hid (SlB w.heap.size v6) := hbv
               obtain ⟨a6, cap6, rfl, hc6⟩ := hsl.sl
               simp only [List.length_map, HN.out] at HB6 ⊢)
  have HC6 : Hid (∀ j (hj : j < ws.length), ∃ g o, a6 = some ⟨g, o, none⟩ ∧ ¬ FX F x g ∧ w1.cell? ⟨g, o + j, none⟩ = some (.string (str ws[j]))) := fun j hj => by
    obtain ⟨g, o, e1, e2⟩ := hc6 j (.string (str ws[j])) (by simp [hj])
    refine ⟨g, o, e1, fun e => ?_, e2⟩
    have h1 := HL.out g e
    have h2 := HB6.out g (by rw [e1]; rfl)
    omega
  have HW1 : Hid (Fr (FX F x) w w1 ∧ w.heap.size ≤ w1.heap.size) := ⟨f1, f1.size⟩
  have cy1 := f1.cell c0 HNE.out
  have hy1 : y < w1.heap.size := Nat.lt_of_lt_of_le hyl f1.size
  have H0 : Hid (TopM w1 F x b s ((preN c ws 0).take K) (.slice none 0 0) w1) := ⟨hM1, Fr.refl _ _, by unfold preN; simp only [List.take_nil, List.length_nil, List.map_nil]; exact own_nil _ _ _ _, fun _ => rfl⟩
  clear hsl hbv hM1 f1 hc6 HB6 HWD
  go_loopw [7, 8] (fun l f wr => ∃ a m : Nat, a + m = 6 ∧ f = .int .i64 m ∧ TopM w1 F x b s ((preN c ws a).take K) l wr) (fun _ f _ => (intOf f).toNat)
  case atStart => exact ⟨0, 6, rfl, rfl, H0.out⟩
  case round =>
    obtain ⟨a, m, ham, rfl, hT⟩ := hrel
    by_cases hm : 1 ≤ m
    · have hm' : (1 : Int) ≤ (m : Int) := by omega
      have hm2 : decide ((1 : Int) ≤ (m : Int)) = true := by simp; omega
      have HT0 : Hid (TopM w1 F x b s (tookK K c ws a 0) u7 wr) := by rw [tookK_zero]; exact hT
      clear hT
      go_wp2
      go_loopw [7, 9] (fun l i wr => ∃ q : Nat, q ≤ n ∧ i = .int .i64 q ∧ TopM w1 F x b s (tookK K c ws a q) l wr) (fun _ i _ => n - (intOf i).toNat)
      case atStart => exact ⟨0, Nat.zero_le _, rfl, HT0.out⟩
      case round =>
        obtain ⟨q, hq, rfl, hI⟩ := hrel
        have ht4 := tookK_le K c ws a q
        obtain ⟨ao7, co7, hv7⟩ := own_slice hI.own
        obtain ⟨ln, hln⟩ : ∃ ln, (tookK K c ws a q).length = ln := ⟨_, rfl⟩
        have HLN : Hid ((tookK K c ws a q).length = ln) := hln
        rw [hln] at hv7 ht4
        subst hv7
        by_cases hgo : q < n ∧ ln < K
        · obtain ⟨hqn, hlk⟩ := hgo
          have hqw : q < ws.length := by rw [HN.out]; exact hqn
          obtain ⟨g, o, rfl, hng, cw⟩ := HC6.out q hqw
          have cw := hI.fr.cell cw hng
          have cyr := hI.fr.cell cy1 HNE.out
          have hyr : y < wr.heap.size := Nat.lt_of_lt_of_le hy1 hI.fr.size
          have hd1 : decide ((q : Int) < (n : Int)) = true := by simp; omega
          have hd1' : (q : Int) < (n : Int) := by omega
          have hd2 : decide ((ln : Int) < (K : Int)) = true := by simp; omega
          have hd2' : (ln : Int) < (K : Int) := by omega
          have hd3 : decide (ln < K) = true := by simp; omega
          have HCF : Hid (∀ W, Fr No wr W → Calls Tryz.prog 75 #[.pointer (some ⟨x, 0, none⟩), .string (str ws[q])] W (MXAsk W F x b s (.int .i64 (c ws[q] : Int)))) := fun W f => HFQ.out W ws[q] (hI.ix.frNo f)
          have HYES : Hid (c ws[q] = 6 - a → tookK K c ws a (q + 1) = tookK K c ws a q ++ [ws[q]]) := fun hc => tookK_yes K c ws a q hqw (by rw [HLN.out]; exact hlk) hc
          have HNO : Hid (¬ c ws[q] = 6 - a → tookK K c ws a (q + 1) = tookK K c ws a q) := fun hc => tookK_no K c ws a q hqw hc
          have HP : Hid (TopM w1 F x b s (tookK K c ws a q) (.slice ao7 ln co7) wr) := hI
          have hown := hI.own
          rw [HLN.out] at hown
          have hsz := hI.fr.size
          generalize hcu : c ws[q] = cu at *
          clear hcu
          generalize ws[q] = u at *
          clear hI hqw hln
          go_wp2
          go_region_held3 (fun w' => w'.cell? ⟨y, 0, none⟩ = some (.pointer (some ⟨x, 0, none⟩)) ∧ w'.cell? ⟨g, o + q, none⟩ = some (.string (str u))) (go_keep)
            (first
              | (go_at_call 75
                 refine (HCF.out _ ((Fr.refl No wr).drew)).mono ?_
                 rintro e w3 ⟨rfl, hM3, f3⟩
                 have F3 : Fr (FX F x) wr w3 := ((Fr.refl (FX F x) wr).drew).trans f3
                 have y3 := F3.cell cyr HNE.out
                 have g3 := F3.cell cw hng
                 have ho3 : w3.ownsRow w1.heap.size 9 1 (.slice ao7 ln co7) ln ((tookK K c ws a q).map vStr) := own_fr2 hown F3 (fun k hk e => by have := own_ge hown hk; have := HL.out k e; have := HW1.out.2; omega)
                 have HM3 : Hid (MX w3 F x b s ∧ Fr (FX F x) w1 w3) := ⟨hM3, HP.out.fr.trans F3⟩
                 have hs3 := HM3.out.2.size
                 clear hM3 f3 F3))
          all_goals
            by_cases hcm : cu = 6 - a
            · have hce : ((cu : Int) == (m : Int)) = true := by simp; omega
              have hce2 : (cu == m) = true := by simp; omega
              have HTT : Hid (tookK K c ws a (q + 1) = tookK K c ws a q ++ [u]) := HYES.out hcm
              obtain ⟨i0, hi, hz0, hz1, hz2⟩ := info_parts info9
              clear hcm
              go_wp2_with (at_builtin; refine wpList_append_own_at _ rfl _ _ 63 rfl w1.heap.size 9 i0 (.string ⟨#[]⟩) 1 16 Tryz.underlying63 hi hz0 hz1 hz2 rfl (by decide) (.slice ao7 ln co7) ln _ rfl (ho3.alloc _) ⟨w3.heap.size, 0, none⟩ 1 1 [.string (str u)] rfl rfl (cell_one_new _ _ _) (by intro u hu; simp only [List.mem_singleton] at hu; subst hu; rfl) (by unfold maxLen; omega) (by omega) (by simp; omega) ?_
                           intro v' w5 ho5 hg5 hnil5 hloc
                           have HKK : Hid (TopM w1 F x b s (tookK K c ws a (q + 1)) v' w5) := ⟨grow_mx (w := w) HM3.out.1 HL.out ho3 HW1.out.2 hg5, grow_fr HM3.out.2 ho3 (Nat.le_refl _) hg5, by rw [HTT.out, List.map_append, List.length_append, HLN.out]; exact ho5, fun e => by rw [HTT.out] at e; simp at e⟩
                           clear ho5 hg5 hloc)
              go_roundw
              case rel => exact ⟨q + 1, by omega, by go_num, HKK.out⟩
              case measure => simp [intOf]; omega
            · have hce : ((cu : Int) == (m : Int)) = false := by simp; omega
              have hce2 : (cu == m) = false := by simp; omega
              have HTT : Hid (tookK K c ws a (q + 1) = tookK K c ws a q) := HNO.out hcm
              have HKK : Hid (TopM w1 F x b s (tookK K c ws a (q + 1)) (.slice ao7 ln co7) w3) := ⟨HM3.out.1, HM3.out.2, by rw [HTT.out, HLN.out]; exact ho3, by rw [HTT.out]; exact HP.out.nil⟩
              clear hcm
              go_wp2
              go_roundw
              case rel => exact ⟨q + 1, by omega, by go_num, HKK.out⟩
              case measure => simp [intOf]; omega
        · have HX : Hid (tookK K c ws a q = (preN c ws (a + 1)).take K) := by
            by_cases h : q < n
            · exact tookK_full K c ws a q (by rw [HLN.out]; omega)
            · exact tookK_all K c ws a q (by rw [HN.out]; omega)
          have HKK : Hid (TopM w1 F x b s ((preN c ws (a + 1)).take K) (.slice ao7 ln co7) wr) := by rw [← HX.out]; exact hI
          have hd : (decide ((q : Int) < (n : Int)) = false ∧ ¬ (q : Int) < (n : Int)) ∨ (decide ((q : Int) < (n : Int)) = true ∧ (q : Int) < (n : Int) ∧ decide ((ln : Int) < (K : Int)) = false ∧ ¬ (ln : Int) < (K : Int) ∧ decide (ln < K) = false) := by
            by_cases h : q < n
            · right; exact ⟨by simp; omega, by omega, by simp; omega, by omega, by simp; omega⟩
            · left; exact ⟨by simp; omega, by omega⟩
          clear hgo hI HX hln
          rcases hd with ⟨hd, hd2⟩ | ⟨hd, hd2, hd3, hd4, hd5⟩
          all_goals
            go_wp2
            go_roundw
            case rel => exact ⟨a + 1, m - 1, by omega, by go_num, HKK.out⟩
            case measure => simp [intOf]; omega
    · have hm0 : m = 0 := by omega
      subst hm0
      have ha6 : a = 6 := by omega
      subst ha6
      have HEE : Hid (MXStrsErr w F x b s ((preN c ws 6).take K) 0 (.returned (.tuple #[u7, .int .i64 0])) wr) := ⟨u7, rfl, own_base hT.own HW1.out.2, hT.ix, HW1.out.1.trans hT.fr, hT.nil⟩
      clear hT
      go_wp2
      refine bodyPost_ret (v := .tuple #[u7, .int .i64 0]) (by simp [results, Tryz.results40, go_sem]) rfl HEE.out
set_option maxHeartbeats 1000000 in
theorem mqTop_any (k : Int) (h : MQ w F y x b s) (hf : Fine s B) : Calls Tryz.prog 40 #[.pointer (some ⟨y, 0, none⟩), .int .i64 k] w (MXStrsErr w F x b s (topL s k) (topErr k)) := by
  by_cases hk : 0 ≤ k ∧ k ≤ 4
  · have e1 : topErr k = 0 := by unfold topErr; rw [if_pos hk]
    have e2 : topL s k = (rankL (cntW (hasOf s)) s.words).take k.toNat := by unfold topL; rw [if_pos hk]
    rw [e1, e2]
    obtain ⟨K, rfl⟩ : ∃ K : Nat, k = K := ⟨k.toNat, by omega⟩
    rw [Int.toNat_natCast]
    exact mqTop_good y x b F s B w K (by omega) h hf
  · have HE : Hid (MXStrsErr w F x b s (topL s k) (topErr k) (.returned (.tuple #[.slice none 0 0, .int .i64 8])) w) := by
      have e1 : topErr k = 8 := by unfold topErr; rw [if_neg hk]
      have e2 : topL s k = [] := by unfold topL; rw [if_neg hk]
      rw [e1, e2]
      exact ⟨_, rfl, own_nil _ _ _ _, h.ix, Fr.refl _ _, fun _ => rfl⟩
    have hd : (decide (k < 0) = true ∧ k < 0) ∨ (decide (k < 0) = false ∧ ¬ k < 0 ∧ decide (4 < k) = true ∧ 4 < k) := by
      by_cases h1 : k < 0
      · left; exact ⟨by simpa using h1, h1⟩
      · right; exact ⟨by simpa using h1, h1, by simp; omega, by omega⟩
    clear h hf hk
    rcases hd with ⟨e1, e2⟩ | ⟨e1, e2, e3, e4⟩
    all_goals
      go_enter Tryz.func40, Tryz.ntmps40
      go_wp2
      refine bodyPost_ret (v := .tuple #[.slice none 0 0, .int .i64 8]) (by simp [results, Tryz.results40, go_sem]) rfl HE.out
end
end Go.Proofs.Qxb6500357aGreat
