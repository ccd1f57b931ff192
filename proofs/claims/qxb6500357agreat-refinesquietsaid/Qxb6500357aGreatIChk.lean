/- The index's own Check: the walk. -/
import Derived.Test.Qxb6500357aGreatChk
import Derived.Test.Qxb6500357aGreatIChkP
import Derived.Test.Qxb6500357aGreatMIx2
import Derived.BigQuiet
import Derived.BigRegion
namespace Go.Tag
open Go.RowKit Go.Proofs.Qxb6500357aGreat
variable {st0 : Nat}
set_option linter.unusedVariables false
set_option linter.unusedSimpArgs false
def IC1 (w : World) (s : St) (q : Word → Nat) (bi : Nat) (v : Value) (wr : World) : Prop :=
  ∃ left cnt, v = .int .i64 (sumLeft s left : Int) ∧ RangeFn wr bi w.heap.size kStr (fInv (hasOf s) q) left cnt ∧ Fr No w wr
def IC2 (w8 : World) (s : St) (bw k : Nat) (wr : World) : Prop := MapFn wr bw kPair (fBy (hasTo s k) s.groupOf) ∧ Fr (fun i => i = bw) w8 wr
def IC3 (wc : World) (s : St) (bw k : Nat) (id : Int) (ws : List Word) (j : Nat) (wr : World) : Prop := MapFn wr bw kPair (fBy (addN (hasTo s k) id ws j) s.groupOf) ∧ Fr (fun i => i = bw) wc wr
def IC4 (w4 : World) (s : St) (bw r : Nat) (wr : World) : Prop := ∃ left cnt, RangeFn wr bw r kPair (fBy (hasOf s) s.groupOf) left cnt ∧ Fr (fun i => i = r) w4 wr
/-- Behind the reading of the document. -/
def ICut (wr : World) (id : Int) (d : Doc) (p e : Value) (wx : World) : Prop :=
  ∃ db, p = .pointer (some ⟨db, 0, none⟩) ∧ e = .int .i64 0 ∧ wx.heap[db]? = some (.cells #[.int .i64 id, .int .i64 d.group, .string (str d.text)] 88) ∧ wr.heap.size ≤ db ∧ Fr No wr wx
end Go.Tag
namespace Go.Proofs.Qxb6500357aGreat
open Go.RowKit Go.Tag
variable {st0 : Nat}
set_option linter.unusedVariables false
set_option linter.unusedSimpArgs false
set_option maxRecDepth 100000
attribute [local simp] str_size
attribute [local go_sem] str_size
set_option maxHeartbeats 8000000 in
theorem indexCheck_any (x : Nat) (F : Nat → Prop) (s : St) (B : Int) (w : World) (h : Both st0 w F x s) (hf : Fine s B) :
    Calls Tryz.prog 34 #[.pointer (some ⟨x, 0, none⟩)] w fun e w' => e = .returned (.bool true) ∧ Fr No w w' := by
  obtain ⟨b, bd, br, bg, p, bi, bb, q, Fs, Fi, hb, hF⟩ := h
  have HB : Hid (∀ W, Fr No w W → StoreAt W Fs b s bd br bg p ∧ IndexAt W Fi x b bi bb (hasOf s) s.groupOf q) := fun W f => ⟨hb.st.fr f (fun _ _ h => h), hb.ix.fr f (fun _ _ h => h)⟩
  have HC : Hid (∀ W, Fr No w W → W.cell? ⟨x, 0, none⟩ = some (.pointer (some ⟨b, 0, none⟩)) ∧ W.cell? ⟨x, 1, none⟩ = some (.map (some bi)) ∧ W.cell? ⟨x, 2, none⟩ = some (.map (some bb)) ∧ x < W.heap.size) := fun W f => by
    have hS := (HB.out W f).2
    refine ⟨?_, ?_, ?_, lt_of_heap hS.root⟩ <;> (rw [cell_of_heap hS.root]; rfl)
  have HFI : Hid (Fine s B) := hf
  obtain ⟨c0, c1, c2, hxl⟩ := HC.out w (Fr.refl _ _)
  obtain ⟨o, cnt0, hrg, hR0⟩ := hb.ix.inv.range0 (P := Tryz.prog) (t := 71) keyStr Tryz.underlying71
  have H0 : Hid (IC1 w s q bi (.int .i64 0) (w.alloc o)) := ⟨_, _, by rw [sumLeft_start]; rfl, hR0, (Fr.refl No w).alloc o⟩
  have HLT : Hid (bi < w.heap.size ∧ bb < w.heap.size) := ⟨hb.ix.lt.2.1, hb.ix.lt.2.2.1⟩
  have hmn71 := mapNe71
  have hmn72 := mapNe72
  have hmn93 := mapNe93
  have hmm := @run_makeMap Tryz.prog
  clear hb hf hR0 hF
  go_enter Tryz.func34, Tryz.ntmps34
  go_wp2
  go_loopw [3, 5] (fun v _ wr => IC1 w s q bi v wr) (fun _ _ wr => toGo bi w.heap.size wr)
  case atStart => exact H0.out
  case round =>
    obtain ⟨left, cnt, rfl, hR, hF⟩ := hrel
    have htg := hR.toGo
    rcases hR.next (P := Tryz.prog) keyStr 0 with ⟨h0, hall, hnx⟩ | ⟨k, v, w1, hlk, hfk, hnx, hpos, hR1, hF1, hsz, hen⟩
    · rw [sumLeft_end HFI.out left hall]
      obtain ⟨wa, hwa⟩ : ∃ wa, wa = wr := ⟨_, rfl⟩
      subst hwa
      obtain ⟨d0, d1, d2, dbl⟩ := HC.out wa hF
      have hA : Fr No w (wa.alloc (.map #[] 0)) := hF.alloc _
      have HIDS : Hid (Calls Tryz.prog 47 #[.pointer (some ⟨b, 0, none⟩)] (wa.alloc (.map #[] 0)) (IntsPost (wa.alloc (.map #[] 0)) s.ids)) := ids_any b bd br bg p Fs s B _ (HB.out _ hA).1 HFI.out
      have HM0 : Hid (MapFn (wa.alloc (.map #[] 0)) wa.heap.size kPair (fBy (hasTo s 0) s.groupOf)) := (mapFn_new wa).congr (fun k => hasTo_zero s s.groupOf k)
      obtain ⟨n, hn⟩ : ∃ n, s.ids.length = n := ⟨_, rfl⟩
      have HN : Hid (s.ids.length = n) := hn
      have hn6 := HFI.out.size
      rw [hn] at hn6
      have HFA : Hid (Fr No w wa ∧ w.heap.size ≤ wa.heap.size) := ⟨hF, hF.size⟩
      clear hR hall h0 htg hn hF hA
      go_wp2_with (go_at_call 47; refine HIDS.out.mono ?_; rintro e w8 ⟨v8, rfl, ho8, f8, -⟩
                   obtain ⟨a8, cap8, rfl, hc8⟩ := own_sl ho8
                   simp only [List.length_map, HN.out] at ho8 ⊢)
      have HC8 : Hid (∀ j (hj : j < s.ids.length), ∃ g o, a8 = some ⟨g, o, none⟩ ∧ wa.heap.size < g ∧ w8.cell? ⟨g, o + j, none⟩ = some (.int .i64 s.ids[j])) := fun j hj => by
        obtain ⟨g, o, e1, e2⟩ := hc8 j (.int .i64 s.ids[j]) (by simp [hj])
        refine ⟨g, o, e1, ?_, e2⟩
        have := (own_ge ho8 (k := g) (by rw [e1]; rfl)).1
        simp only [World.size_alloc] at this
        omega
      have HW8 : Hid (Fr No w w8 ∧ wa.heap.size < w8.heap.size ∧ w.heap.size ≤ wa.heap.size) := by
        refine ⟨(HFA.out.1.alloc _).trans f8, ?_, HFA.out.2⟩
        have := f8.size
        simp only [World.size_alloc] at this
        omega
      have H2 : Hid (IC2 w8 s wa.heap.size 0 w8) := ⟨HM0.out.fr f8 (fun h => h), Fr.refl _ _⟩
      clear HM0 HFA HIDS ho8 hc8 f8 d0 d1 d2 dbl
      generalize wa.heap.size = bw at *
      go_loopw [3, 10] (fun v i wr => ∃ k : Nat, k ≤ n ∧ i = .int .i64 k ∧ v = .int .i64 (sumDoc s k : Int) ∧ IC2 w8 s bw k wr) (fun _ i _ => n - (intOf i).toNat)
      case atStart => exact ⟨0, Nat.zero_le _, rfl, rfl, H2.out⟩
      case round =>
        obtain ⟨k, hk, rfl, rfl, hM, hF2⟩ := hrel
        have hFw : Fr No w wr := HW8.out.1.trans' hF2 (fun i hi e => by have := HW8.out.2; omega)
        obtain ⟨d0, d1, d2, dbl⟩ := HC.out wr hFw
        by_cases hlt : k < n
        · have hkl : k < s.ids.length := by rw [HN.out]; exact hlt
          obtain ⟨g8, o8, rfl, hg8, k8⟩ := HC8.out k hkl
          have k8 := hF2.cell k8 (show ¬ g8 = bw by omega)
          have hgr : g8 < wr.heap.size := World.block_lt_of_cell? _ _ k8
          have hd1 : (k : Int) < (n : Int) := by omega
          have hmem : s.ids[k] ∈ s.ids := List.getElem_mem hkl
          obtain ⟨d, hdd⟩ := Option.isSome_iff_exists.1 ((mem_ids HFI.out s.ids[k]).1 hmem)
          have hdm := HFI.out.dom _ d hdd
          have htx := textOf_some hdd
          have HSD : Hid (sumDoc s k = (wordsOf d.text).length + sumDoc s (k + 1)) := by
            have := sumDoc_succ s k hkl
            rw [htx] at this; exact this
          have HADD : Hid (addN (hasTo s k) s.ids[k] (wordsOf d.text) (wordsOf d.text).length = hasTo s (k + 1)) := by
            have := hasTo_succ s k hkl
            rw [htx] at this; exact this
          have HNO : Hid (∀ u, hasTo s k u s.ids[k] = false) := hasTo_no s k hkl
          have HHAS : Hid (∀ u ∈ wordsOf d.text, hasOf s u s.ids[k] = true) := fun u hu => by rw [hasOf_some hdd]; simpa using hu
          have HG : Hid (s.groupOf s.ids[k] = d.group) := groupOf_some hdd
          have HID : Hid (1 ≤ s.ids[k] ∧ s.ids[k] ≤ 9) := hdm.1
          have HSL : Hid (sumDoc s k ≤ 1053) := sumDoc_le HFI.out k (by omega)
          have HGET : Hid (∀ W, Fr No wr W → Calls Tryz.prog 66 #[.pointer (some ⟨b, 0, none⟩), .int .i64 s.ids[k]] W fun e w' => e = .returned (.tuple #[.agg #[.int .i64 s.ids[k], .int .i64 d.group, .string (str d.text)], .int .i64 0]) ∧ Fr No W w') := fun W f => by
            have := get_any b bd br bg p Fs s B s.ids[k] W (HB.out W (hFw.trans f)).1 HFI.out
            unfold GetPost at this
            rw [getErr_some hdm.1 hdd, getDoc_some hdd] at this
            exact this
          have htl : d.text.length ≤ 12 := hdm.2.2.1
          have HI2 : Hid (MapFn wr bw kPair (fBy (hasTo s k) s.groupOf) ∧ Fr (fun i => i = bw) w8 wr ∧ Fr No w wr) := ⟨hM, hF2, hFw⟩
          generalize s.ids[k] = id at *
          clear hM hF2 hFw hmem hdd hdm hkl htx
          have HB1 : Hid ((wr.alloc (.cells #[.int .i64 0, .int .i64 0, .string (str [])] 88)).drew.heap[wr.heap.size]? = some (.cells #[.int .i64 0, .int .i64 0, .string (str [])] 88)) := heap_alloc_new wr _
          have hxne : x ≠ wr.heap.size := by omega
          have hgne : g8 ≠ wr.heap.size := by omega
          have hxne2 : wr.heap.size ≠ x := by omega
          have hgne2 : wr.heap.size ≠ g8 := by omega
          go_upto_region 16 with fail
          go_cut [11, 12] from 77 to 88 (fun p e wx => ICut wr id d p e wx)
          case first =>
            go_region_held3 (fun w' => w'.cell? ⟨x, 0, none⟩ = some (.pointer (some ⟨b, 0, none⟩)) ∧ w'.cell? ⟨g8, o8 + k, none⟩ = some (.int .i64 id)) (go_keep)
              (first
                | (go_at_call 66
                   refine (HGET.out _ (by first | exact (Fr.refl No wr).drew | exact ((Fr.refl No wr).alloc _).drew)).mono ?_
                   rintro e w3 ⟨rfl, f3⟩
                   have x3 : w3.cell? ⟨x, 0, none⟩ = some (.pointer (some ⟨b, 0, none⟩)) := f3.cell (by first | exact d0 | exact ((Fr.refl No wr).alloc _).cell d0 (fun h => h)) (fun h => h)
                   have g3 : w3.cell? ⟨g8, o8 + k, none⟩ = some (.int .i64 id) := f3.cell (by first | exact k8 | exact ((Fr.refl No wr).alloc _).cell k8 (fun h => h)) (fun h => h)
                   have hx3 : x < w3.heap.size := World.block_lt_of_cell? _ _ x3
                   have hg3 : g8 < w3.heap.size := World.block_lt_of_cell? _ _ g3
                   first
                     | (have hb3 : w3.heap[wr.heap.size]? = some (.cells #[.int .i64 0, .int .i64 0, .string (str [])] 88) := f3.heap (by first | with_reducible exact HB1.out | exact HB1.out) (fun h => h)
                        have q0 := cell_of_heap hb3 0
                        have q1 := cell_of_heap hb3 1
                        have q2 := cell_of_heap hb3 2
                        simp only [List.getElem?_toArray, List.getElem?_cons_zero, List.getElem?_cons_succ] at q0 q1 q2
                        have fz := frozen_of_heap hb3
                        have HCC : Hid (ICut wr id d (.pointer (some ⟨wr.heap.size, 0, none⟩)) (.int .i64 0) (((w3.setCell ⟨wr.heap.size, 0, none⟩ (.int .i64 id)).setCell ⟨wr.heap.size, 1, none⟩ (.int .i64 d.group)).setCell ⟨wr.heap.size, 2, none⟩ (.string (str d.text)))) :=
                          ⟨_, rfl, rfl, doc_set hb3 _ _ _, Nat.le_refl _, ((((Fr.refl No wr).alloc _).drew).trans f3).trans' (fr_doc w3 _ _ _ _) (fun i hi e => by omega)⟩
                        clear hb3)
                     | (have HCC : Hid (ICut wr id d (.pointer (some ⟨w3.heap.size, 0, none⟩)) (.int .i64 0) (w3.alloc (.cells #[.int .i64 id, .int .i64 d.group, .string (str d.text)] 88))) :=
                          ⟨_, rfl, rfl, heap_alloc_new w3 _, f3.size, (((Fr.refl No wr).drew).trans f3).alloc _⟩)
                   clear f3))
            all_goals
              go_wp2
              go_meet
              case rel => exact HCC.out
          case rest =>
            obtain ⟨db, rfl, rfl, hdb, hdbs, fc⟩ := hcut
            have x2 := cell_of_heap hdb 2
            simp only [List.getElem?_toArray, List.getElem?_cons_zero, List.getElem?_cons_succ] at x2
            have hdbl := lt_of_heap hdb
            have HDB : Hid (wc.heap[db]? = some (.cells #[.int .i64 id, .int .i64 d.group, .string (str d.text)] 88) ∧ wr.heap.size ≤ db ∧ Fr No wr wc) := ⟨hdb, hdbs, fc⟩
            have HSP : Hid (Calls Tryz.prog 67 #[.string (str d.text)] wc (SplitPost wc d.text)) := split_any d.text wc (by omega)
            have HWN : Hid ((wordsOf d.text).Nodup) := wordsOf_nodup _
            have hwl : (wordsOf d.text).length ≤ 13 := by have := wordsOf_len d.text; omega
            clear hdb hdbs fc k8 d0 d1 d2 dbl HGET HB1 hxne hxne2 hgne hgne2 hgr hg8
            go_wp2_with (go_at_call 67; refine HSP.out.mono ?_; rintro e wt ⟨v, rfl, hown, fs⟩
                         have HT : Hid (wt.ownsRow wc.heap.size 9 1 v (wordsOf d.text).length ((wordsOf d.text).map vStr) ∧ Fr No wc wt) := ⟨hown, fs⟩
                         obtain ⟨ao, cap, rfl, hcl⟩ := own_sl hown
                         simp only [List.length_map]
                         clear hown fs)
            have HBW : Hid (bw < wr.heap.size) := by have := HI2.out.1.lt; exact this
            have HFT : Hid (Fr No wr wt) := HDB.out.2.2.trans HT.out.2
            have HCW : Hid (∀ j (hj : j < (wordsOf d.text).length), ∃ g o, ao = some ⟨g, o, none⟩ ∧ wr.heap.size ≤ g ∧ wt.cell? ⟨g, o + j, none⟩ = some (.string (str (wordsOf d.text)[j]))) := fun j hj => by
              obtain ⟨g, o, e1, e2⟩ := hcl j (.string (str (wordsOf d.text)[j])) (by simp [hj, vStr])
              refine ⟨g, o, e1, ?_, e2⟩
              have := (own_ge HT.out.1 (k := g) (by rw [e1]; rfl)).1
              have := HDB.out.2.2.size
              omega
            have HDT : Hid (wt.heap[db]? = some (.cells #[.int .i64 id, .int .i64 d.group, .string (str d.text)] 88)) := HT.out.2.heap HDB.out.1 (fun h => h)
            have H3 : Hid (IC3 wt s bw k id (wordsOf d.text) 0 wt) := ⟨by rw [addN_zero]; exact HI2.out.1.fr HFT.out (fun h => h), Fr.refl _ _⟩
            generalize wordsOf d.text = ws at *
            obtain ⟨nw, hnw⟩ : ∃ nw, ws.length = nw := ⟨_, rfl⟩
            have HNW : Hid (ws.length = nw) := hnw
            obtain ⟨S', hS'⟩ : ∃ S', sumDoc s (k + 1) = S' := ⟨_, rfl⟩
            have HS' : Hid (sumDoc s (k + 1) = S') := hS'
            rw [hnw] at hwl
            simp only [hnw]
            have hsk : sumDoc s k = nw + S' := by rw [HSD.out, hnw, hS']
            have HS53 : Hid (nw + S' ≤ 1053) := by have := HSL.out; rw [hsk] at this; exact this
            rw [hsk]
            clear hnw hS' hsk HSL HSP hcl
            go_loopw [3, 14] (fun v i wr => ∃ j : Nat, j ≤ nw ∧ i = .int .i64 j ∧ v = .int .i64 ((S' + (nw - j) : Nat) : Int) ∧ IC3 wt s bw k id ws j wr) (fun _ i _ => nw - (intOf i).toNat)
            case atStart => exact ⟨0, Nat.zero_le _, rfl, by rw [Nat.sub_zero, Nat.add_comm], H3.out⟩
            case round =>
              obtain ⟨j, hj, rfl, rfl, hMj, hFj⟩ := hrel
              have hFwt : Fr No w wt := HI2.out.2.2.trans HFT.out
              have hFwj : Fr No w wr := hFwt.trans' hFj (fun i hi e => by have := HW8.out.2; omega)
              by_cases hltj : j < nw
              · have hjl : j < ws.length := by rw [HNW.out]; exact hltj
                obtain ⟨gw, ow, rfl, hgw, kw⟩ := HCW.out j hjl
                have kw := hFj.cell kw (show ¬ gw = bw by have := HBW.out; omega)
                have hgwl : gw < wr.heap.size := World.block_lt_of_cell? _ _ kw
                obtain ⟨e0, e1, e2, exl⟩ := HC.out wr hFwj
                have hdb := hFj.heap HDT.out (show ¬ db = bw by have := HBW.out; have := HDB.out.2.1; omega)
                have x0 := cell_of_heap hdb 0
                have x1 := cell_of_heap hdb 1
                simp only [List.getElem?_toArray, List.getElem?_cons_zero, List.getElem?_cons_succ] at x0 x1
                have hdbl2 := lt_of_heap hdb
                have hix := (HB.out wr hFwj).2
                have hHu := HHAS.out ws[j] (List.getElem_mem hjl)
                have hcw : cntW (hasOf s) ws[j] ≠ 0 := by have := cntW_pos hHu HID.out; omega
                have hno := addN_no HWN.out HNO.out j hjl
                have HSU : Hid (addN (hasTo s k) id ws (j + 1) = addH (addN (hasTo s k) id ws j) ws[j] id) := addN_succ _ _ _ _ hjl
                have hl1 : ∀ n, (Instr.lookup 71 (.map (some bi)) (.string (str ws[j])) false).run Tryz.prog (wr.drewN n) = .ok (.agg #[.map (some (q ws[j])), .int .i64 (cntW (hasOf s) ws[j])]) (wr.drewN n) := fun n => by
                  have := (hix.inv.fr ((Fr.refl No wr).drewN n) (fun h => h)).lookup_v (P := Tryz.prog) (t := 71) keyStr Tryz.underlying71 (zero124 _) ws[j]
                  rw [fInv_getD _ _ _ hcw] at this; exact this
                have hl2 : ∀ n, (Instr.lookup 93 (.map (some (q ws[j]))) (.int .i64 id) true).run Tryz.prog (wr.drewN n) = .ok (.tuple #[.bool true, .bool true]) (wr.drewN n) := fun n => by
                  have := ((hix.set ws[j] hcw).fr ((Fr.refl No wr).drewN n) (fun h => h)).lookup_ok (P := Tryz.prog) (t := 93) keyInt Tryz.underlying93 (zero4 _) id
                  unfold setB at this
                  rw [if_pos hHu] at this; exact this
                have HME : Hid (MapFn wr bw kPair (fBy (addN (hasTo s k) id ws j) s.groupOf) ∧ addN (hasTo s k) id ws j ws[j] id = false) := ⟨hMj, hno⟩
                have HFJ : Hid (Fr (fun i => i = bw) wt wr) := hFj
                have hcb9 := cntBy_le (addN (hasTo s k) id ws j) s.groupOf (d.group, ws[j])
                obtain ⟨m, hm⟩ : ∃ m, S' + (nw - j) = m := ⟨_, rfl⟩
                have HMM : Hid (S' + (nw - (j + 1)) + 1 = m) := by show _ = _; omega
                have hm1 : 1 ≤ m ∧ m ≤ 1053 := by have := HS53.out; omega
                rw [hm]
                have hwm : IntKind.i64.wrap ((m : Int) - 1) = (m : Int) - 1 := wrap_i64 _ (by omega) (by omega)
                have hfl := fld0
                have hltj2 : (j : Int) < (nw : Int) := by omega
                generalize addN (hasTo s k) id ws j = H' at *
                generalize ws[j] = u at *
                generalize q u = qu at *
                generalize cntW (hasOf s) u = cw at *
                clear hix hHu hcw hno hMj hFj hm hdb hFwj hFwt
                go_wp2
                go_quiet (fail)
                obtain ⟨wd, hwd⟩ : ∃ wd, wr.drewN nq = wd := ⟨_, rfl⟩
                have y1 : wd.cell? ⟨db, 1, none⟩ = some (.int .i64 d.group) := by rw [← hwd]; exact x1
                have yw : wd.cell? ⟨gw, ow + j, none⟩ = some (.string (str u)) := by rw [← hwd]; exact kw
                have hM : MapFn wd.drew bw kPair (fBy H' s.groupOf) := by rw [← hwd]; exact HME.out.1.fr (((Fr.refl No wr).drewN nq).drew) (fun h => h)
                have hlv := hM.lookup_v (P := Tryz.prog) (t := 72) keyPair Tryz.underlying72 (zero3 _) (d.group, u)
                rw [fBy_getD] at hlv
                obtain ⟨wE, st, he1, hte, hel, he2⟩ := hM.entry3 (P := Tryz.prog) (t := 72) keyPair Tryz.underlying72 zero3 (d.group, u)
                rw [fBy_getD] at he1 hel
                obtain ⟨w4, he3, hM4, ht4⟩ := he2 (.int .i64 ((cntBy H' s.groupOf (d.group, u) : Int) + 1))
                have HK : Hid (IC3 wt s bw k id ws (j + 1) w4) := by
                  refine ⟨?_, ?_⟩
                  · rw [HSU.out, fBy_add HID.out s.groupOf HME.out.2, HG.out]; exact hM4
                  · have f1 : Fr (fun i => i = bw) wr wd.drew := by rw [← hwd]; exact ((Fr.refl _ wr).drewN nq).drew
                    exact (HFJ.out.trans f1).trans ht4.fr
                generalize cntBy H' s.groupOf (d.group, u) = cb at *
                have hwc : IntKind.i64.wrap ((cb : Int) + 1) = (cb : Int) + 1 := wrap_i64 _ (by omega) (by omega)
                simp only [kPair] at hlv he1 hel he3
                rw [hwd]
                clear hM hM4 ht4 he2 hte hwd x0 x1 kw e0 e1 e2 hl1 hl2
                go_wp2
                go_region
                go_wp2
                go_roundw
                case rel => exact ⟨j + 1, by omega, by go_num, by have := HMM.out; congr 1; omega, HK.out⟩
                case measure => simp [intOf]; omega
              · have hje : j = nw := by omega
                have HK : Hid (IC2 w8 s bw (k + 1) wr) := by
                  refine ⟨?_, (HI2.out.2.1.trans HFT.out.any).trans hFj⟩
                  rw [← HADD.out, HNW.out, ← hje]; exact hMj
                have hz : S' + (nw - j) = S' := by omega
                rw [hz]
                clear hMj hFj hFwj hFwt hz
                go_wp2
                go_roundw
                case rel => exact ⟨k + 1, by omega, by go_num, by rw [HS'.out], HK.out⟩
                case measure => simp [intOf]; omega
        · have hke : k = n := by omega
          have hs0 : sumDoc s k = 0 := by rw [hke, ← HN.out]; exact sumDoc_end s
          have hM2 : MapFn wr bw kPair (fBy (hasOf s) s.groupOf) := by
            rw [← hasTo_all HFI.out, HN.out, ← hke]; exact hM
          rw [hs0]
          obtain ⟨ks, hks1, hks2⟩ := hM2.keys (P := Tryz.prog) keyPair
          have hix := (HB.out wr hFw).2
          have hl3 := fun (n : Nat) ty => (hM2.fr ((Fr.refl No wr).drewN n) (fun h => h)).len (P := Tryz.prog) (t := 72) keyPair Tryz.underlying72 hks1 hks2 ty
          have hl4 := fun (n : Nat) ty => (hix.by_.fr ((Fr.refl No wr).drewN n) (fun h => h)).len (P := Tryz.prog) (t := 72) keyPair Tryz.underlying72 hks1 hks2 ty
          have hgk : ((ks.length : Int) == (ks.length : Int)) = true := by simp
          have HM2 : Hid (MapFn wr bw kPair (fBy (hasOf s) s.groupOf) ∧ Fr No w wr) := ⟨hM2, hFw⟩
          clear hM hF2 hFw hM2 hix hs0
          obtain ⟨wz, hwz⟩ : ∃ wz, wz = wr := ⟨_, rfl⟩
          subst hwz
          go_wp2
          go_quiet (fail)
          obtain ⟨wd, hwd⟩ : ∃ wd, wz.drewN nq = wd := ⟨_, rfl⟩
          have hMd : MapFn wd bw kPair (fBy (hasOf s) s.groupOf) := by rw [← hwd]; exact HM2.out.1.fr ((Fr.refl No wz).drewN nq) (fun h => h)
          have HFD : Hid (Fr No w wd) := by show Fr No w wd; rw [← hwd]; exact HM2.out.2.trans ((Fr.refl No wz).drewN nq)
          rw [hwd]
          clear hwd hl3 hl4 hgk d0 d1 d2 dbl
          obtain ⟨o4, cnt4, hrg4, hR4⟩ := hMd.range0 (P := Tryz.prog) (t := 72) keyPair Tryz.underlying72
          have H4 : Hid (IC4 (wd.alloc o4) s bw wd.heap.size (wd.alloc o4)) := ⟨_, _, hR4, Fr.refl _ _⟩
          have HFD4 : Hid (Fr No w (wd.alloc o4) ∧ w.heap.size ≤ wd.heap.size) := ⟨HFD.out.alloc o4, HFD.out.size⟩
          clear hMd hR4
          go_wp2
          go_loopw [15, 16] (fun _ _ wr => IC4 (wd.alloc o4) s bw wd.heap.size wr) (fun _ _ wr => toGo bw wd.heap.size wr)
          case atStart => exact H4.out
          case round =>
            obtain ⟨left, cnt, hR, hF⟩ := hrel
            have htg := hR.toGo
            have hFw : Fr No w wr := HFD4.out.1.trans' hF (fun i hi e => by have := HFD4.out.2; omega)
            rcases hR.next (P := Tryz.prog) keyPair 0 with ⟨h0, hall, hnx⟩ | ⟨kk, v, w1, hlk, hfk, hnx, hpos, hR1, hF1, hsz, hen⟩
            · have HE : Hid (Fr No w wr) := hFw
              clear hR hF hall hFw
              go_wp2
              go_ret
              exact ⟨rfl, HE.out⟩
            · obtain ⟨gk, u⟩ := kk
              simp only [kPair] at hnx hen
              have hv : v = .int .i64 (cntBy (hasOf s) s.groupOf (gk, u) : Int) := by
                unfold fBy at hfk
                split at hfk
                · cases hfk
                · exact (Option.some.inj hfk).symm
              subst hv
              have hFw1 : Fr No w w1 := hFw.trans' hF1 (fun i hi e => by have := HFD4.out.2; omega)
              obtain ⟨e0, e1, e2, exl⟩ := HC.out w1 hFw1
              have hix := (HB.out w1 hFw1).2
              have hl5 : ∀ n, (Instr.lookup 72 (.map (some bb)) (.agg #[.int .i64 gk, .string (str u)]) false).run Tryz.prog ((w1.alloc (.cells #[.int .i64 gk, .string (str u)] 78)).drewN n) = .ok (.int .i64 (cntBy (hasOf s) s.groupOf (gk, u) : Int)) ((w1.alloc (.cells #[.int .i64 gk, .string (str u)] 78)).drewN n) := fun n => by
                have := (hix.by_.fr (((Fr.refl No w1).alloc (.cells #[.int .i64 gk, .string (str u)] 78)).drewN n) (fun h => h)).lookup_v (P := Tryz.prog) (t := 72) keyPair Tryz.underlying72 (zero3 _) (gk, u)
                rw [fBy_getD] at this; exact this
              have HK : Hid (∀ W, Fr No w1 W → IC4 (wd.alloc o4) s bw wd.heap.size W ∧ toGo bw wd.heap.size W < cnt) := fun W f => by
                have hRW := hR1.fr f (fun h => h) (fun h => h)
                exact ⟨⟨_, _, hRW, (hF.trans hF1).trans f.any⟩, by rw [hRW.toGo]; omega⟩
              generalize cntBy (hasOf s) s.groupOf (gk, u) = cb at *
              have hbx : (w1.alloc (.cells #[.int .i64 gk, .string (str u)] 78)).heap[wr.heap.size]? = some (.cells #[.int .i64 gk, .string (str u)] 78) := by rw [← hsz]; exact heap_alloc_new w1 _
              have z0 := cell_of_heap hbx 0
              have z1 := cell_of_heap hbx 1
              simp only [List.getElem?_toArray, List.getElem?_cons_zero, List.getElem?_cons_succ] at z0 z1
              have zl := lt_of_heap hbx
              have z2 := ((Fr.refl No w1).alloc (.cells #[.int .i64 gk, .string (str u)] 78)).cell e2 (fun h => h)
              have zx := World.block_lt_of_cell? _ _ z2
              have hFQ : Fr No w1 (w1.alloc (.cells #[.int .i64 gk, .string (str u)] 78)) := (Fr.refl No w1).alloc _
              clear hR hF hR1 hF1 hfk hlk hFw hFw1 hix
              go_upto_region 31 with fail
              generalize w1.alloc (.cells #[.int .i64 gk, .string (str u)] 78) = wq at *
              have HFQ : Hid (Fr No w1 wq) := hFQ
              clear hFQ hbx e0 e1 e2 exl hsz
              go_quiet (fail)
              go_wp2
              go_roundw
              case rel => exact (HK.out _ (HFQ.out.drewN _)).1
              case measure => rw [htg]; exact (HK.out _ (HFQ.out.drewN _)).2
    · have hkw : k ∈ s.words := (fInv_mem s q k).2 (by rw [hfk]; rfl)
      have hcw : cntW (hasOf s) k ≠ 0 := (words_mem s k).1 hkw
      have hv : v = .agg #[.map (some (q k)), .int .i64 (cntW (hasOf s) k)] := by
        unfold fInv at hfk
        rw [if_neg hcw] at hfk
        exact (Option.some.inj hfk).symm
      subst hv
      simp only [kStr] at hnx hen
      have hFw1 : Fr No w w1 := hF.trans' hF1 (fun i hi e => by omega)
      have hset := (HB.out w1 hFw1).2.set k hcw
      have hln : ∀ o ty, (Builtin.len_ #[93] ty #[.map (some (q k))]).run Tryz.prog (w1.alloc o) = .ok (.int .i64 (cntW (hasOf s) k : Int)) (w1.alloc o) := fun o ty => by
        have := (hset.fr ((Fr.refl No w1).alloc o) (fun h => h)).len (P := Tryz.prog) (t := 93) keyInt Tryz.underlying93 (pw_to (holders_sorted s k) (fun h e => by omega)) (setB_mem HFI.out k) ty
        rw [holders_len] at this; exact this
      have hst := sumLeft_step s left k hkw hlk
      have hle := sumLeft_le HFI.out (fun j => left j && !decide (j = k))
      have HK : Hid (∀ W, Fr No w1 W → IC1 w s q bi (.int .i64 ((sumLeft s left : Int) + (cntW (hasOf s) k : Int))) W ∧ toGo bi w.heap.size W < cnt) := fun W f => by
        have hRW := hR1.fr f (fun h => h) (fun h => h)
        exact ⟨⟨_, _, by rw [hst]; congr 1, hRW, hFw1.trans f⟩, by rw [hRW.toGo]; omega⟩
      rw [hst] at hle
      generalize sumLeft s left = S at *
      generalize cntW (hasOf s) k = cw at *
      generalize q k = qk at *
      have hcd : decide (cw = 0) = false := by simp; exact hcw
      have hcd2 : ((cw : Int) == 0) = false := by simp; exact hcw
      have hcd3 : ((cw : Int) == (cw : Int)) = true := by simp
      have hwc : IntKind.i64.wrap ((S : Int) + (cw : Int)) = (S : Int) + (cw : Int) := wrap_i64 _ (by omega) (by omega)
      clear hR hF hR1 hF1 hfk hlk hFw1 hset hkw hst
      go_wp2
      go_roundw
      case rel => exact (HK.out _ ((Fr.refl No w1).alloc _)).1
      case measure => rw [htg]; exact (HK.out _ ((Fr.refl No w1).alloc _)).2
end Go.Proofs.Qxb6500357aGreat
