import Derived.Test.Qxb6500357aTopsPlain
import Derived.Test.Qxb6500357aHead
namespace Go.Proofs.Qxb6500357a
open Go.RowKit Go.Tag
set_option linter.unusedVariables false
set_option linter.unusedSimpArgs false
set_option maxRecDepth 100000
attribute [local simp] str_size
attribute [local go_sem] str_size

/-- The first j counts are laid. -/
def FillV (w : World) (c : Word → Nat) (ws : List Word) (n j : Nat) (wr : World) : Prop :=
  ∃ xs, (∀ k (h : k < ws.length), k < j → xs[k]? = some (.int .i64 (c ws[k] : Nat))) ∧ wr.ownsRow w.heap.size 3 1 (.slice (some ⟨w.heap.size, 0, none⟩) n n) n xs ∧ Fr No w wr
theorem fillV_step {w wr w1 : World} {c : Word → Nat} {ws : List Word} {n j : Nat} (h : FillV w c ws n j wr) (hj : j < ws.length) (hn : ws.length = n) (f : Fr No wr w1) : FillV w c ws n (j + 1) (w1.setCell ⟨w.heap.size, j, none⟩ (.int .i64 (c ws[j] : Nat))) := by
  obtain ⟨xs, h1, h2, h3⟩ := h
  have h2' := own_fr h2 f (fun _ _ h => h)
  obtain ⟨hg, -, -, -, hset⟩ := own_cells h2'
  refine ⟨_, fun k hk hkj => ?_, hset j _ (by omega), (h3.trans f).setCell (p := ⟨w.heap.size, j, none⟩) (.inl (Nat.le_refl _)) _⟩
  have hl := h2.1
  rw [List.getElem?_set]
  by_cases e : j = k
  · subst e; rw [if_pos rfl, if_pos (by omega)]
  · rw [if_neg e]; exact h1 k hk (by omega)
theorem fillV_cell {w wr w1 : World} {c : Word → Nat} {ws : List Word} {n j : Nat} (h : FillV w c ws n j wr) (f : Fr No wr w1) (k : Nat) (hk : k < n) : (∃ u, w1.cell? ⟨w.heap.size, k, none⟩ = some u) ∧ w1.frozen? ⟨w.heap.size, k, none⟩ = false ∧ w.heap.size < w1.heap.size := by
  obtain ⟨xs, h1, h2, h3⟩ := h
  have h2' := own_fr h2 f (fun _ _ h => h)
  obtain ⟨hg, hlt, hc, hf, -⟩ := own_cells h2'
  have hl := h2.1
  exact ⟨⟨xs[k]'(by omega), hc k _ (List.getElem?_eq_getElem _)⟩, hf k, hlt⟩
theorem fillV_done {w wr : World} {c : Word → Nat} {ws : List Word} {n : Nat} (h : FillV w c ws n n wr) (hn : ws.length = n) (k : Nat) (hk : k < ws.length) : wr.cell? ⟨w.heap.size, k, none⟩ = some (.int .i64 (c ws[k] : Nat)) := by
  obtain ⟨xs, h1, h2, h3⟩ := h
  obtain ⟨hg, hlt, hc, hf, -⟩ := own_cells h2
  exact hc k _ (h1 k hk (by omega))

set_option maxHeartbeats 1000000 in
theorem tops_any (gb t0 g0 x0 p0 : Nat) (s : St) (B : Int) (v : Value) (w : World) (h : GhostAt w gb t0 g0 x0 p0 s) (hv : SlW w v s.words) (hf : Fine s B) : Calls Try.prog 20 #[.pointer (some ⟨gb, 0, none⟩), v] w (StrPost w (strs (topL s 4))) := by
  have HG : Hid (∀ wr, Fr No w wr → GhostAt wr gb t0 g0 x0 p0 s) := fun wr f => GhostR.fr h f (fun _ _ h => h)
  have HF : Hid (Fine s B) := hf
  have hwl := words_len hf
  have HE : Hid (topL s 4 = (preN (cntW (hasOf s)) s.words 6).take 4) := by
    rw [Hid, preN_six _ _ (words_sorted s) (fun u hu => cntW_six hf u hu)]
    unfold topL; rw [if_pos (by decide)]; rfl
  have HU : Hid (∀ u ∈ s.words, u.length ≤ 12) := fun u hu => word_short hf u hu
  have HHO : Hid (∀ u, (s.holders u).length = cntW (hasOf s) u) := fun u => rfl
  have HC9 : Hid (∀ u, cntW (hasOf s) u ≤ 9) := fun u => cntW_le _ u
  have HHD : Hid (∀ (u : Word) (w' : World), u ∈ s.words → Fr No w w' → Calls Try.prog 45 #[.pointer (some ⟨gb, 0, none⟩), .string (str u)] w' (HoldPost w' s u)) := fun u w' hu f => holding_any gb t0 g0 x0 p0 s B u w' (HG.out w' f) hf (by have := word_short hf u hu; omega)
  generalize cntW (hasOf s) = c at *
  obtain ⟨ao, cap, rfl, hcl⟩ := hv.sl
  generalize s.words = ws at *
  obtain ⟨n, hn⟩ : ∃ n, ws.length = n := ⟨_, rfl⟩
  have HN : Hid (ws.length = n) := hn
  rw [List.length_map, hn]
  rw [hn] at hwl
  obtain ⟨i0, hi, hz0, hz1, hz2⟩ := info_parts info3
  obtain ⟨wm, hmk, hom, hgm⟩ := run_make_full (P := Try.prog) w w.heap.size 47 3 i0 (.int .i64 0) 1 Try.underlying47 hi hz0 hz1 .i64 .i64 n (by rw [hz2]; omega) (by unfold maxLen; omega) (Nat.le_refl _)
  have HM : Hid (FillV w c ws n 0 wm) := ⟨_, fun k hk h => absurd h (Nat.not_lt_zero _), hom, (Fr.refl No w).grown hgm (fun k hk => by cases hk)⟩
  clear h hv hf hn hom hgm hi hz0 hz1 hz2
  go_enter Try.func20, Try.ntmps20
  go_wp2
  go_loopw [6] (fun i wr => ∃ j : Nat, j ≤ n ∧ i = .int .i64 j ∧ FillV w c ws n j wr) (fun i _ => n - (intOf i).toNat)
  case atStart => exact ⟨0, Nat.zero_le _, rfl, HM.out⟩
  case round =>
    obtain ⟨j, hj, rfl, hI⟩ := hrel
    have hfw : Fr No w wr := by obtain ⟨_, _, _, h⟩ := hI; exact h
    by_cases hlt : j < n
    · have hjl : j < ws.length := by rw [HN.out]; exact hlt
      obtain ⟨g, off, rfl, hc00⟩ := hcl j (.string (str ws[j])) (by simp [hjl])
      have hc0 : wr.cell? ⟨g, off + j, none⟩ = some (.string (str ws[j])) := frNo_cell hfw hc00
      clear hc00
      have HD : Hid (Calls Try.prog 45 #[.pointer (some ⟨gb, 0, none⟩), .string (str ws[j])] wr (HoldPost wr s ws[j])) := HHD.out _ wr (List.getElem_mem hjl) hfw
      have HK : Hid (∀ w1, Fr No wr w1 → FillV w c ws n (j + 1) (w1.setCell ⟨w.heap.size, j, none⟩ (.int .i64 (c ws[j] : Nat)))) := fun w1 f => fillV_step hI hjl HN.out f
      have HCC : Hid (∀ w1, Fr No wr w1 → (∃ u, w1.cell? ⟨w.heap.size, j, none⟩ = some u) ∧ w1.frozen? ⟨w.heap.size, j, none⟩ = false ∧ w.heap.size < w1.heap.size) := fun w1 f => fillV_cell hI f j hlt
      have hlc : (s.holders ws[j]).length = c ws[j] := HHO.out _
      clear hI hcl
      generalize ws[j] = u at *
      clear hjl
      have HLC : Hid ((s.holders u).length = c u) := hlc
      clear hlc
      go_wp2_with (go_at_call 45; refine HD.out.mono ?_; rintro e w2 ⟨v6, b, rfl, hown6, -, -, f2⟩
                   obtain ⟨ao6, cap6, rfl, -⟩ := own_sl hown6
                   obtain ⟨⟨u0, k0⟩, k1, k2⟩ := HCC.out w2 f2
                   simp only [List.length_map, HLC.out]
                   clear hown6)
      go_roundw
      case rel => exact ⟨j + 1, by omega, by go_num, HK.out w2 f2⟩
      case measure => simp [intOf]; omega
    · have hjn : j = n := by omega
      subst hjn
      have HCD : Hid (∀ k (h : k < ws.length), wr.cell? ⟨w.heap.size, k, none⟩ = some (.int .i64 (c ws[k] : Nat))) := fun k h => fillV_done hI HN.out k h
      have HCW : Hid (∀ k (h : k < ws.length), ∃ g off, ao = some ⟨g, off, none⟩ ∧ wr.cell? ⟨g, off + k, none⟩ = some (.string (str ws[k]))) := fun k hk => by
        obtain ⟨g, off, h1, h2⟩ := hcl k (.string (str ws[k])) (by simp [hk])
        exact ⟨g, off, h1, frNo_cell hfw h2⟩
      have HFW : Hid (Fr No w wr) := hfw
      clear hI hcl hfw HM hmk
      obtain ⟨wo, hwo⟩ : ∃ wo, wo = wr := ⟨_, rfl⟩
      subst hwo
      go_wp2
      go_loop [9, 10, 11] (fun t k f => ∃ a m : Nat, a + m = 6 ∧ f = .int .i64 m ∧ t = .string (str (strs ((preN c ws a).take 4))) ∧ k = .int .i64 ((preN c ws a).take 4).length) (fun _ _ f => (intOf f).toNat)
      case atStart => exact ⟨0, 6, rfl, rfl, rfl, rfl⟩
      case round =>
        obtain ⟨a, m, ham, rfl, rfl, rfl⟩ := hrel
        by_cases hm : 1 ≤ m
        · have hm' : (1 : Int) ≤ (m : Int) := by omega
          have HZ : Hid ((preN c ws a).take 4 = tookN c ws a 0) := (tookN_zero c ws a).symm
          rw [HZ.out]
          go_wp2
          go_loop [9, 10, 12] (fun t k i => ∃ q : Nat, q ≤ j ∧ i = .int .i64 q ∧ t = .string (str (strs (tookN c ws a q))) ∧ k = .int .i64 (tookN c ws a q).length) (fun _ _ i => j - (intOf i).toNat)
          case atStart => exact ⟨0, Nat.zero_le _, rfl, rfl, rfl⟩
          case round =>
            obtain ⟨q, hq, rfl, rfl, rfl⟩ := hrel
            have ht4 := tookN_le c ws a q
            by_cases hgo : q < j ∧ (tookN c ws a q).length < 4
            · obtain ⟨hqj, hql⟩ := hgo
              have hqw : q < ws.length := by rw [HN.out]; exact hqj
              have hcq := HCD.out q hqw
              obtain ⟨g, off, rfl, hcw⟩ := HCW.out q hqw
              have hd1 : decide ((q : Int) < (j : Int)) = true := by simp; omega
              have hd1' : (q : Int) < (j : Int) := by omega
              have hd2 : decide (((tookN c ws a q).length : Int) < 4) = true := by simp; omega
              have hul := HU.out ws[q] (List.getElem_mem hqw)
              have hsl : (strs (tookN c ws a q)).length ≤ 4004 := by
                have := strs_len0 (tookN c ws a q) (fun u hu => by have := HU.out u (tookN_mem c ws a q (by omega) u hu); omega)
                omega
              by_cases hcm : c ws[q] = 6 - a
              · have hce : (((c ws[q] : Nat) : Int) == (m : Int)) = true := by simp; omega
                have HT : Hid (tookN c ws a (q + 1) = tookN c ws a q ++ [ws[q]]) := tookN_yes c ws a q hqw hql hcm
                clear hcm
                generalize ws[q] = u at *
                generalize tookN c ws a q = L at *
                go_wp2
                go_round
                case rel => exact ⟨q + 1, by omega, by go_num, by rw [HT.out, strs_snoc]; simp only [← str_append]; rfl, by rw [HT.out]; simp⟩
                case measure => simp [intOf]; omega
              · have hce : (((c ws[q] : Nat) : Int) == (m : Int)) = false := by simp; omega
                have HT : Hid (tookN c ws a (q + 1) = tookN c ws a q) := tookN_no c ws a q hqw hcm
                clear hcm
                generalize ws[q] = u at *
                generalize tookN c ws a q = L at *
                go_wp2
                go_round
                case rel => exact ⟨q + 1, by omega, by go_num, by rw [HT.out], by rw [HT.out]⟩
                case measure => simp [intOf]; omega
            · have HX : Hid (tookN c ws a q = (preN c ws (a + 1)).take 4) := by
                by_cases h : q < j
                · exact tookN_full c ws a q (by omega)
                · exact tookN_all c ws a q (by rw [HN.out]; omega)
              have hd : (decide ((q : Int) < (j : Int)) = false ∧ ¬ (q : Int) < (j : Int)) ∨ (decide ((q : Int) < (j : Int)) = true ∧ (q : Int) < (j : Int) ∧ decide ((tookN c ws a q).length < 4) = false ∧ ¬ (((tookN c ws a q).length : Int) < 4)) := by
                by_cases h : q < j
                · right; exact ⟨by simp; omega, by omega, by simp; omega, by omega⟩
                · left; exact ⟨by simp; omega, by omega⟩
              obtain ⟨Lx, hLx⟩ : ∃ Lx, tookN c ws a q = Lx := ⟨_, rfl⟩
              have HLX : Hid ((preN c ws (a + 1)).take 4 = Lx) := by rw [Hid, ← HX.out]; exact hLx
              rw [hLx] at hd ht4 ⊢
              clear hgo hLx HX
              rcases hd with ⟨hd, hd2⟩ | ⟨hd, hd2, hd3, hd4⟩
              all_goals
                go_wp2
                go_round
                case rel => exact ⟨a + 1, m - 1, by omega, by go_num, by rw [HLX.out], by rw [HLX.out]⟩
                case measure => simp [intOf]; omega
        · have hm0 : m = 0 := by omega
          subst hm0
          have ha6 : a = 6 := by omega
          subst ha6
          have HEE : Hid (StrPost w (strs (topL s 4)) (.returned (.string (str (strs ((preN c ws 6).take 4))))) wo) := by rw [Hid, HE.out]; exact ⟨rfl, HFW.out⟩
          go_wp2
          go_ret
          exact HEE.out
end Go.Proofs.Qxb6500357a
