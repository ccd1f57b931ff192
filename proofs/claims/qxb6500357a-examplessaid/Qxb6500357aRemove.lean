import Derived.Test.Qxb6500357aRem
import Derived.Deep.CutRange
namespace Go.Proofs.Qxb6500357a
open Go.RowKit Go.Tag
set_option linter.unusedVariables false
set_option linter.unusedSimpArgs false
set_option maxRecDepth 100000
attribute [local simp] str_size
attribute [local go_sem] str_size

/-- Behind the first 'if'. -/
def RemCut1 (w : World) (F : Nat → Prop) (x b bi bb : Nat) (H : Has) (grp : Int → Int) (id : Int) (ws : List Word) (v : Value) (xb : Nat) (t : List UInt8) (q : Word → Nat) (u : Word) (wr : World) (g j : Nat) (w3 : World) : Prop :=
  w3.cell? ⟨x, 2, none⟩ = some (.map (some bb)) ∧ w3.cell? ⟨xb, 1, none⟩ = some (.int .i64 (grp id)) ∧ w3.cell? ⟨g, j, none⟩ = some (.string (str u)) ∧ RemMid w F x b bi bb H grp id ws v xb t q u wr w3
/-- Behind the count's turn. -/
def RemCut2 (w : World) (F : Nat → Prop) (x b bi bb : Nat) (H : Has) (grp : Int → Int) (id : Int) (ws : List Word) (v : Value) (xb : Nat) (t : List UInt8) (q : Word → Nat) (u : Word) (kb : Nat) (cb : Int) (w4 : World) : Prop :=
  w4.cell? ⟨x, 2, none⟩ = some (.map (some bb)) ∧ w4.cell? ⟨kb, 0, none⟩ = some (.int .i64 (grp id)) ∧ w4.cell? ⟨kb, 1, none⟩ = some (.string (str u)) ∧
      (Instr.lookup 101 (.map (some bb)) (.agg #[.int .i64 (grp id), .string (str u)]) false).run Try.prog w4.drew = .ok (.int .i64 (cb - 1)) w4.drew ∧
      ((cb = 1 ∧ ∃ w5, (∀ kt ty, (Builtin.delete_ #[101, kt] ty #[.map (some bb), .agg #[.int .i64 (grp id), .string (str u)]]).run Try.prog w4.drew.drew = .ok (.tuple #[]) w5) ∧ AddI w F x b bi bb (subH H u id) grp id ws v xb t q w5) ∨
       (cb ≠ 1 ∧ AddI w F x b bi bb (subH H u id) grp id ws v xb t q w4.drew))

set_option maxHeartbeats 1000000 in
theorem remove_any (x b bi bb : Nat) (F : Nat → Prop) (H : Has) (grp : Int → Int) (q : Word → Nat) (id : Int) (t : List UInt8) (w : World) (h : IndexAt w F x b bi bb H grp q) (hid : 1 ≤ id ∧ id ≤ 9) (hH : ∀ u ∈ wordsOf t, H u id = true) (ht : t.length ≤ 12) :
    Calls Try.prog 63 #[.pointer (some ⟨x, 0, none⟩), .agg #[.int .i64 id, .int .i64 (grp id), .string (str t)]] w (RemPost w F x b bi bb H grp id (wordsOf t)) := by
  have HT : Hid (t.length ≤ 1000) := by show t.length ≤ 1000; omega
  have HX : Hid (IndexAt w F x b bi bb H grp q ∧ (1 ≤ id ∧ id ≤ 9) ∧ (∀ u ∈ wordsOf t, H u id = true) ∧ (wordsOf t).Nodup) := ⟨h, hid, hH, wordsOf_nodup t⟩
  have hwl : (wordsOf t).length ≤ 13 := by have := wordsOf_len t; omega
  have hwu : Hid (∀ u ∈ wordsOf t, u.length ≤ 12) := fun u hu => by have := (wordsOf_word t u hu).2; omega
  clear h hid hH
  go_enter Try.func63, Try.ntmps63
  go_wp2_with (go_at_call 90; refine (split_any t _ HT.out).mono ?_
               rintro e w1 ⟨v, rfl, hown, hfr⟩
               have HA : Hid (AddI w F x b bi bb H grp id (wordsOf t) v w.heap.size t q w1) := by
                 have hb1 := hfr.size
                 have hb : w1.heap[w.heap.size]? = some (docO id (grp id) t) := hfr.heap (heap_alloc_new w (docO id (grp id) t)) (fun h => h)
                 have hfr0 : Fr No w w1 := ((Fr.refl No w).alloc _).trans' hfr (fun _ _ h => h)
                 exact ⟨(HX.out.1.fr hfr0 (fun _ _ h => h)).mono (fun k hk => .inl hk), own_base hown (by simp), hfr0.any, hb, Nat.le_refl _⟩
               obtain ⟨ao, cap, rfl, hcl⟩ := own_sl hown
               simp only [List.length_map]
               clear hcl hown hfr)
  generalize wordsOf t = ws at *
  obtain ⟨n, hn⟩ : ∃ n, ws.length = n := ⟨_, rfl⟩
  have HN : Hid (ws.length = n) := hn
  rw [hn] at hwl
  simp only [hn]
  clear hn
  go_loopw [5] (fun i wr => ∃ (j : Nat) (q : Word → Nat), j ≤ n ∧ i = .int .i64 j ∧ AddI w F x b bi bb (subN H id ws j) grp id ws (.slice ao n cap) w.heap.size t q wr) (fun i _ => n - (intOf i).toNat)
  case atStart => exact ⟨0, q, Nat.zero_le _, rfl, by rw [subN_zero]; simp only [List.length_map, HN.out] at HA; exact HA.out⟩
  case round =>
    obtain ⟨j, q, hj, rfl, hI⟩ := hrel
    by_cases hlt : j < n
    · have hjl : j < ws.length := by rw [HN.out]; exact hlt
      have hown := hI.own
      rw [HN.out] at hown
      obtain ⟨g, cap', hv, -⟩ := own_at hown (by omega)
      cases hv
      obtain ⟨hg1, hg2, hcell, -, -⟩ := own_cells hown
      have hu12 := hwu.out ws[j] (List.getElem_mem hjl)
      have c0 : wr.cell? ⟨g, j, none⟩ = some (.string (str ws[j])) := hcell j _ (by simp [hjl, vStr])
      have hno := subN_yes HX.out.2.2.2 HX.out.2.2.1 j hjl
      have hix := hI.ix
      have hju : ws[j]? = some ws[j] := List.getElem?_eq_getElem hjl
      have HS : Hid (subN H id ws (j + 1) = subH (subN H id ws j) ws[j] id) := subN_succ H id ws j hjl
      generalize subN H id ws j = H' at *
      generalize ws[j] = u at *
      have hr1 : wr.cell? ⟨x, 1, none⟩ = some (.map (some bi)) := by rw [cell_of_heap hix.root]; rfl
      have hb0 : wr.cell? ⟨w.heap.size, 0, none⟩ = some (.int .i64 id) := by rw [cell_of_heap hI.box]; rfl
      have hxw := hix.lt.1
      have hbw : w.heap.size < wr.heap.size := lt_of_heap hI.box
      have hcw9 := cntW_le H' u
      have hcb9 := cntBy_le H' grp (grp id, u)
      have HJ : Hid (ws[j]? = some u) := hju
      have HI : Hid (AddI w F x b bi bb H' grp id ws (.slice (some ⟨g, 0, none⟩) n cap) w.heap.size t q wr) := hI
      have hbi := hix.lt.2.1
      have hcp := cntW_pos hno HX.out.2.1
      have hcbp := cntBy_pos (grp := grp) hno HX.out.2.1
      have hcw : cntW H' u ≠ 0 := by omega
      have hL : ∀ w', w'.heap[bi]? = wr.heap[bi]? → (Instr.lookup 100 (.map (some bi)) (.string (str u)) false).run Try.prog w' = .ok (.agg #[.map (some (q u)), .int .i64 (cntW H' u)]) w' := fun w' hw => by
        have := (hix.inv.keep hw).lookup_v (P := Try.prog) (t := 100) keyStr Try.underlying100 (zero124 _) u
        rw [fInv_getD _ _ _ hcw] at this; exact this
      have hlA := hL wr.drew rfl
      have hlB := fun o => hL (wr.alloc o).drew (Below.heap_alloc _ o _ hbi)
      have frB : Fr No wr (wr.alloc (.cells #[.map (some (q u)), .int .i64 (cntW H' u)] 124)).drew := ((Fr.refl _ _).alloc _).drew
      obtain ⟨w1, a1, a2, a3, a4, a5, a6, a7⟩ := rem_tail1 (u := u) HI.out HX.out.2.1 hno frB (pb := wr.heap.size) (heap_alloc_new _ _) (Nat.le_refl _) rfl rfl HN.out HJ.out
      have HNO : Hid (H' u id = true) := hno
      obtain ⟨cw, hcwe⟩ : ∃ cw, cntW H' u = cw := ⟨_, rfl⟩
      simp only [hcwe] at hlA hlB a1 a3 a7 hcw9 hcp
      clear hL hcell hI hix frB hcw hcwe hno
      go_wp2
      go_region
      go_upto_if 36 with fail
      go_cut [] from 11 to 81 (fun wx => RemCut1 w F x b bi bb H' grp id ws (.slice (some ⟨g, 0, none⟩) n cap) w.heap.size t q u wr g j wx)
      case first =>
        rcases a7 with ⟨hc1, w3, b1, b2⟩ | ⟨hc1, w3, b1, b2⟩
        · have HM : Hid (RemCut1 w F x b bi bb H' grp id ws (.slice (some ⟨g, 0, none⟩) n cap) w.heap.size t q u wr g j w3) := b2
          have hz : ((cw : Int) - 1 == 0) = true := by simp; omega
          clear b2 hc1
          go_wp2
          go_region
          go_wp2
          go_meet
          case rel => exact HM.out
        · have HM : Hid (RemCut1 w F x b bi bb H' grp id ws (.slice (some ⟨g, 0, none⟩) n cap) w.heap.size t q u wr g j w3) := b2
          have hz : ((cw : Int) - 1 == 0) = false := by simp; omega
          clear b2 hc1
          go_wp2
          go_region
          go_wp2
          go_meet
          case rel => exact HM.out
      case rest =>
        obtain ⟨b2, b3, b4, b5⟩ := hcut
        have hg3 : g < wc.heap.size := (own_cells (HN.out ▸ b5.own)).2.1
        have hb3 : w.heap.size < wc.heap.size := lt_of_heap b5.box
        have hx3 : x < wc.heap.size := Nat.lt_of_lt_of_le hxw b5.fr.size
        have hk5 : ((wc.alloc (.cells #[.int .i64 (grp id), .string (str u)] 106)).drew).drew.heap[wc.heap.size]? = some (.cells #[.int .i64 (grp id), .string (str u)] 106) := heap_alloc_new wc _
        obtain ⟨wE, w4, st, cb, hcb, d1, d2, d3, d4, d5⟩ := rem_tail2 (kb := wc.heap.size) (W5 := ((wc.alloc (.cells #[.int .i64 (grp id), .string (str u)] 106)).drew).drew) b5 HX.out.2.1 HNO.out ((((Fr.refl _ _).alloc _).drew).drew) hk5
        have HC : Hid (RemCut2 w F x b bi bb H' grp id ws (.slice (some ⟨g, 0, none⟩) n cap) w.heap.size t q u wc.heap.size cb w4) := d5
        have hcb1 : 1 ≤ cb := by omega
        have hcb2 : cb ≤ 9 := by omega
        have hwc : IntKind.i64.wrap (cb - 1) = cb - 1 := wrap_i64 _ (by omega) (by omega)
        clear d5 a1 a2 a3 a4 a5 a6 a7 b5 hk5 hcb hcb9 hcbp hlA hlB hr1 hb0 hcp hcw9
        go_wp2
        go_region
        go_upto_region 12 with fail
        go_cut [] from 11 to 81 (fun wx => RemCut2 w F x b bi bb H' grp id ws (.slice (some ⟨g, 0, none⟩) n cap) w.heap.size t q u wc.heap.size cb wx)
        case first =>
          go_region
          go_wp2
          go_meet
          case rel => exact HC.out
        case rest =>
          clear HC d1 d2 d3 d4 b2 b3 b4
          obtain ⟨d5, d6, d7, d8, d9⟩ := hcut
          generalize wc.heap.size = kb at *
          rcases d9 with ⟨hc2, w5, e1, e2⟩ | ⟨hc2, e2⟩
          · have HF : Hid _ := e2
            have hz2 : (cb - 1 == 0) = true := by simp; omega
            clear e2 hc2
            go_wp2
            go_region
            go_wp2
            go_region
            go_wp2
            go_roundw
            case rel => exact ⟨j + 1, _, by omega, by go_num, by rw [HS.out]; exact HF.out⟩
            case measure => simp [intOf]; omega
          · have HF : Hid _ := e2
            have hz2 : (cb - 1 == 0) = false := by simp; omega
            clear e2 hc2
            go_wp2
            go_region
            go_wp2
            go_roundw
            case rel => exact ⟨j + 1, _, by omega, by go_num, by rw [HS.out]; exact HF.out⟩
            case measure => simp [intOf]; omega
    · have HE : Hid (RemPost w F x b bi bb H grp id ws (.returned (.tuple #[])) wr) := by
        have e : j = n := by omega
        refine ⟨rfl, ⟨q, ?_⟩, hI.fr⟩
        have := hI.ix.bound
        rw [HN.out, ← e]
        exact this.mono (fun k hk => or_to hk.1 _root_.id (fun h => ⟨h, hk.2⟩))
      clear hI
      go_wp2
      go_end0
      exact HE.out
end Go.Proofs.Qxb6500357a
