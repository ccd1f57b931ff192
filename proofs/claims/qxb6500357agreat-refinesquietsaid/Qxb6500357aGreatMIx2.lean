/- The model's index: pick, Docs, Freq, Tally. -/
import Derived.Test.Qxb6500357aGreatMIx
import Derived.Deep.CutRange
import Derived.Deep.RegionHeld3
namespace Go.Tag
open Go.RowKit Go.Proofs.Qxb6500357aGreat
set_option linter.unusedVariables false
set_option linter.unusedSimpArgs false
def pickB (s : St) (gr : Int) (u : Word) (i : Int) : Bool := (decide (gr < 0) || decide (s.groupOf i = gr)) && hasOf s u i
def pickTo (s : St) (gr : Int) (u : Word) (q : Nat) : List Int := (s.ids.take q).filter (pickB s gr u)
def pickL (s : St) (gr : Int) (u : Word) : List Int := s.ids.filter (pickB s gr u)
theorem holders_ids (s : St) (u : Word) : s.holders u = s.ids.filter (hasOf s u) := by
  unfold St.holders St.ids
  rw [List.filter_filter]
  refine List.filter_congr fun i _ => ?_
  cases hd : s.docs i with
  | none => rw [hasOf_none hd]; simp
  | some d => simp
theorem pick_all (s : St) (u : Word) : pickL s (-1) u = s.holders u := by
  rw [holders_ids]
  unfold pickL pickB
  refine List.filter_congr fun i _ => ?_
  simp
theorem pick_group (s : St) (g : Int) (u : Word) (hg : 0 ≤ g) : (pickL s g u).length = cntBy (hasOf s) s.groupOf (g, u) := by
  unfold pickL cntBy pickB
  have e : s.ids.filter (fun i => (decide (g < 0) || decide (s.groupOf i = g)) && hasOf s u i) = idsAll.filter (fun i => hasOf s u i && decide (s.groupOf i = g)) := by
    unfold St.ids
    rw [List.filter_filter]
    refine List.filter_congr fun i _ => ?_
    cases hd : s.docs i with
    | none => rw [hasOf_none hd]; simp
    | some d =>
      have : decide (g < 0) = false := by simp; omega
      simp [this, Bool.and_comm]
  rw [e]
theorem pick_long {s : St} {B : Int} (h : Fine s B) {u : Word} (gr : Int) (hu : 12 < u.length) : pickL s gr u = [] := by
  have h1 := holders_long h hu
  rw [holders_ids] at h1
  unfold pickL
  rw [List.filter_eq_nil_iff] at h1 ⊢
  intro i hi
  have := h1 i hi
  unfold pickB
  simp only [Bool.and_eq_true, not_and]
  exact fun _ => this
theorem pickTo_yes (s : St) (gr : Int) (u : Word) (q : Nat) (h : q < s.ids.length) (hb : pickB s gr u s.ids[q] = true) : pickTo s gr u (q + 1) = pickTo s gr u q ++ [s.ids[q]] := by
  unfold pickTo; rw [take_snoc s.ids q h, List.filter_append]; simp [hb]
theorem pickTo_no (s : St) (gr : Int) (u : Word) (q : Nat) (h : q < s.ids.length) (hb : pickB s gr u s.ids[q] = false) : pickTo s gr u (q + 1) = pickTo s gr u q := by
  unfold pickTo; rw [take_snoc s.ids q h, List.filter_append]; simp [hb]
theorem pickTo_len (s : St) (gr : Int) (u : Word) (q : Nat) : (pickTo s gr u q).length ≤ s.ids.length := by
  unfold pickTo
  refine Nat.le_trans (List.length_filter_le _ _) ?_
  simp; omega
/-- The loop's state. -/
structure PickI (w8 : World) (F : Nat → Prop) (b : Nat) (s : St) (gr : Int) (u : Word) (q : Nat) (v : Value) (wr : World) : Prop where
  st : MS wr F b s
  fr : Fr F w8 wr
  own : wr.ownsRow w8.heap.size 3 1 v (pickTo s gr u q).length ((pickTo s gr u q).map (Value.int .i64))
  nil : pickTo s gr u q = [] → v = .slice none 0 0
/-- Behind the reading of the document. -/
def PickCut (w0 wr : World) (F : Nat → Prop) (b : Nat) (s : St) (id : Int) (d : Doc) (p e : Value) (wx : World) : Prop :=
  ∃ db, p = .pointer (some ⟨db, 0, none⟩) ∧ e = .int .i64 0 ∧ wx.heap[db]? = some (.cells #[.int .i64 id, .int .i64 d.group, .string (str d.text)] 88) ∧ MS wx F b s ∧ Fr F wr wx
end Go.Tag
namespace Go.Proofs.Qxb6500357aGreat
open Go.RowKit Go.Tag
set_option linter.unusedVariables false
set_option linter.unusedSimpArgs false
set_option maxRecDepth 100000
attribute [local simp] str_size
attribute [local go_sem] str_size
theorem doc_set {w1 : World} {ab : Nat} {c0 c1 c2 : Value} (h : w1.heap[ab]? = some (.cells #[c0, c1, c2] 88)) (v0 v1 v2 : Value) : (((w1.setCell ⟨ab, 0, none⟩ v0).setCell ⟨ab, 1, none⟩ v1).setCell ⟨ab, 2, none⟩ v2).heap[ab]? = some (.cells #[v0, v1, v2] 88) := by
  have h1 := Go.Tag.heap_setCell_same h 0 v0
  have h2 := Go.Tag.heap_setCell_same h1 1 v1
  have h3 := Go.Tag.heap_setCell_same h2 2 v2
  rw [h3]; rfl
theorem fr_doc (w1 : World) (ab : Nat) (v0 v1 v2 : Value) : Fr (fun k => k = ab) w1 (((w1.setCell ⟨ab, 0, none⟩ v0).setCell ⟨ab, 1, none⟩ v1).setCell ⟨ab, 2, none⟩ v2) :=
  (((Fr.refl (fun k => k = ab) w1).setCell (p := ⟨ab, 0, none⟩) (.inr rfl) _).setCell (p := ⟨ab, 1, none⟩) (.inr rfl) _).setCell (p := ⟨ab, 2, none⟩) (.inr rfl) _
section
variable (x b : Nat) (F : Nat → Prop) (s : St) (B : Int) (w : World)
set_option maxHeartbeats 4000000 in
theorem pick_any (gr : Int) (u : Word) (ax : Int) (h : MXat w F x b s ax) (hf : Fine s B) : Calls Tryz.prog 92 #[.pointer (some ⟨x, 0, none⟩), .int .i64 gr, .string (str u)] w (MInts w F b s (pickL s gr u)) := by
  by_cases hu : 12 < u.length
  · have hd : decide ((12 : Int) < (u.length : Int)) = true := by simp; omega
    have HZ : Hid (MInts w F b s (pickL s gr u) (.returned (.slice none 0 0)) w) := by
      rw [pick_long hf gr hu]
      exact ⟨_, rfl, own_nil _ _ _ _, h.st, Fr.refl _ _, fun _ => rfl⟩
    clear h hf
    go_enter Tryz.func92, Tryz.ntmps92
    go_wp2
    go_ret
    exact HZ.out
  have hd : decide ((12 : Int) < (u.length : Int)) = false := by simp; omega
  obtain ⟨c0, -, -, hxl⟩ := h.cells
  have HI : Hid (Calls Tryz.prog 93 #[.pointer (some ⟨b, 0, none⟩)] w (MInts w F b s s.ids)) := mIds_any b F s w h.st (by have := hf.size; omega)
  have HF : Hid (∀ k, F k → k < w.heap.size) := h.st.lt
  have HX : Hid (¬ F x) := h.ne
  have hn6 := hf.size
  have HFI : Hid (Fine s B) := hf
  obtain ⟨n, hn⟩ : ∃ n, s.ids.length = n := ⟨_, rfl⟩
  have HN : Hid (s.ids.length = n) := hn
  rw [hn] at hn6
  clear h hf hn
  go_enter Tryz.func92, Tryz.ntmps92
  go_wp2_with (go_at_call 93; refine HI.out.mono ?_; rintro e w8 ⟨v8, rfl, ho8, hM8, f8, -⟩
               have c8 := f8.cell c0 HX.out
               have hx8 : x < w8.heap.size := Nat.lt_of_lt_of_le hxl f8.size
               obtain ⟨a8, cap8, rfl, hc8⟩ := own_sl ho8
               simp only [List.length_map, HN.out] at ho8 ⊢)
  have HC8 : Hid (∀ j (hj : j < s.ids.length), ∃ g o, a8 = some ⟨g, o, none⟩ ∧ w.heap.size ≤ g ∧ w8.cell? ⟨g, o + j, none⟩ = some (.int .i64 s.ids[j])) := fun j hj => by
    obtain ⟨g, o, e1, e2⟩ := hc8 j (.int .i64 s.ids[j]) (by simp [hj])
    exact ⟨g, o, e1, (own_ge ho8 (k := g) (by rw [e1]; rfl)).1, e2⟩
  have H0 : Hid (PickI w8 F b s gr u 0 (.slice none 0 0) w8) := ⟨hM8, Fr.refl _ _, by unfold pickTo; simp only [List.take_zero, List.filter_nil, List.length_nil, List.map_nil]; exact own_nil _ _ _ _, fun _ => rfl⟩
  have HW8 : Hid (w.heap.size ≤ w8.heap.size ∧ Fr F w w8) := ⟨f8.size, f8⟩
  clear ho8 hc8 hM8 f8 HI
  go_loopw [7, 9] (fun l i wr => ∃ q : Nat, q ≤ n ∧ i = .int .i64 q ∧ PickI w8 F b s gr u q l wr) (fun _ i _ => n - (intOf i).toNat)
  case atStart => exact ⟨0, Nat.zero_le _, rfl, H0.out⟩
  case round =>
    obtain ⟨q, hq, rfl, hP⟩ := hrel
    by_cases hlt : q < n
    · have hql : q < s.ids.length := by rw [HN.out]; exact hlt
      obtain ⟨g8, o8, rfl, hg8, k8⟩ := HC8.out q hql
      have hFg : ¬ F g8 := fun e => by have := HF.out g8 e; omega
      have k8 := hP.fr.cell k8 hFg
      have c0r := hP.fr.cell c8 HX.out
      have hxr : x < wr.heap.size := Nat.lt_of_lt_of_le hx8 hP.fr.size
      have hgr : g8 < wr.heap.size := World.block_lt_of_cell? _ _ k8
      have hd1 : (q : Int) < (n : Int) := by omega
      have hmem : s.ids[q] ∈ s.ids := List.getElem_mem hql
      obtain ⟨d, hdd⟩ := Option.isSome_iff_exists.1 ((mem_ids HFI.out s.ids[q]).1 hmem)
      have hdm := HFI.out.dom _ d hdd
      have HYES : Hid (pickB s gr u s.ids[q] = true → pickTo s gr u (q + 1) = pickTo s gr u q ++ [s.ids[q]]) := pickTo_yes s gr u q hql
      have HNO : Hid (pickB s gr u s.ids[q] = false → pickTo s gr u (q + 1) = pickTo s gr u q) := pickTo_no s gr u q hql
      have HBB : Hid (pickB s gr u s.ids[q] = ((decide (gr < 0) || decide (d.group = gr)) && decide (u ∈ wordsOf d.text))) := by
        unfold Hid pickB
        rw [groupOf_some hdd, hasOf_text, textOf_some hdd]
      have HGET : Hid (∀ W, Fr No wr W → Calls Tryz.prog 94 #[.pointer (some ⟨b, 0, none⟩), .int .i64 s.ids[q]] W fun e w' => e = .returned (.tuple #[.agg #[.int .i64 s.ids[q], .int .i64 d.group, .string (str d.text)], .int .i64 0]) ∧ MS w' F b s ∧ Fr F W w') := fun W f => by
        have := mGet_any b F s B W s.ids[q] (hP.st.frNo f) HFI.out
        rw [getErr_some hdm.1 hdd, getDoc_some hdd] at this
        exact this
      have HP : Hid (PickI w8 F b s gr u q u7 wr) := hP
      have htl : d.text.length ≤ 12 := hdm.2.2.1
      generalize s.ids[q] = id at *
      clear hP hmem hdd hdm hql
      have hwr : w.heap.size ≤ wr.heap.size := by have := HW8.out.1; have := HP.out.fr.size; omega
      have HB1 : Hid ((wr.alloc (.cells #[.int .i64 0, .int .i64 0, .string (str [])] 88)).drew.heap[wr.heap.size]? = some (.cells #[.int .i64 0, .int .i64 0, .string (str [])] 88)) := heap_alloc_new wr _
      have hxne : x ≠ wr.heap.size := by omega
      have hgne : g8 ≠ wr.heap.size := by omega
      have hxne2 : wr.heap.size ≠ x := by omega
      have hgne2 : wr.heap.size ≠ g8 := by omega
      go_upto_region 8 with fail
      go_cut [10, 11] from 26 to 37 (fun p e wx => PickCut w wr F b s id d p e wx)
      case first =>
        go_region_held3 (fun w' => w'.cell? ⟨x, 0, none⟩ = some (.pointer (some ⟨b, 0, none⟩)) ∧ w'.cell? ⟨g8, o8 + q, none⟩ = some (.int .i64 id)) (go_keep)
          (first
            | (go_at_call 94
               refine (HGET.out _ (by first | exact (Fr.refl No wr).drew | exact ((Fr.refl No wr).alloc _).drew)).mono ?_
               rintro e w3 ⟨rfl, hM3, f3⟩
               have x3 : w3.cell? ⟨x, 0, none⟩ = some (.pointer (some ⟨b, 0, none⟩)) := f3.cell (by first | exact c0r | exact ((Fr.refl No wr).alloc _).cell c0r (fun h => h)) HX.out
               have g3 : w3.cell? ⟨g8, o8 + q, none⟩ = some (.int .i64 id) := f3.cell (by first | exact k8 | exact ((Fr.refl No wr).alloc _).cell k8 (fun h => h)) hFg
               have hx3 : x < w3.heap.size := World.block_lt_of_cell? _ _ x3
               have hg3 : g8 < w3.heap.size := World.block_lt_of_cell? _ _ g3
               first
                 | (have hb3 : w3.heap[wr.heap.size]? = some (.cells #[.int .i64 0, .int .i64 0, .string (str [])] 88) := f3.heap (by first | with_reducible exact HB1.out | exact HB1.out) (fun e => by have := HF.out _ e; omega)
                    have q0 := cell_of_heap hb3 0
                    have q1 := cell_of_heap hb3 1
                    have q2 := cell_of_heap hb3 2
                    simp only [List.getElem?_toArray, List.getElem?_cons_zero, List.getElem?_cons_succ] at q0 q1 q2
                    have fz := frozen_of_heap hb3
                    have HCC : Hid (PickCut w wr F b s id d (.pointer (some ⟨wr.heap.size, 0, none⟩)) (.int .i64 0) (((w3.setCell ⟨wr.heap.size, 0, none⟩ (.int .i64 id)).setCell ⟨wr.heap.size, 1, none⟩ (.int .i64 d.group)).setCell ⟨wr.heap.size, 2, none⟩ (.string (str d.text)))) :=
                      ⟨_, rfl, rfl, doc_set hb3 _ _ _, hM3.fr (fr_doc w3 _ _ _ _) (fun k hk e => by have := HF.out k hk; omega), ((((Fr.refl F wr).alloc _).drew).trans f3).trans' (fr_doc w3 _ _ _ _) (fun i hi e => by omega)⟩
                    clear hb3)
                 | (have HCC : Hid (PickCut w wr F b s id d (.pointer (some ⟨w3.heap.size, 0, none⟩)) (.int .i64 0) (w3.alloc (.cells #[.int .i64 id, .int .i64 d.group, .string (str d.text)] 88))) :=
                      ⟨_, rfl, rfl, heap_alloc_new w3 _, hM3.frNo ((Fr.refl No w3).alloc _), (((Fr.refl F wr).drew).trans f3).alloc _⟩)
               clear hM3 f3))
        all_goals
          go_wp2
          go_meet
          case rel => exact HCC.out
      case rest =>
        obtain ⟨db, rfl, rfl, hdb, hMc, fc⟩ := hcut
        have x1 := cell_of_heap hdb 1
        have x2 := cell_of_heap hdb 2
        simp only [List.getElem?_toArray, List.getElem?_cons_zero, List.getElem?_cons_succ] at x1 x2
        have kc := fc.cell k8 hFg
        have hoc : wc.ownsRow w8.heap.size 3 1 u7 (pickTo s gr u q).length ((pickTo s gr u q).map (Value.int .i64)) := own_fr2 HP.out.own fc (fun k hk e => by have := own_ge HP.out.own hk; have := HF.out k e; have := HW8.out.1; omega)
        have HPC : Hid (MS wc F b s ∧ Fr F w8 wc) := ⟨hMc, HP.out.fr.trans fc⟩
        have HSAME : Hid (pickTo s gr u (q + 1) = pickTo s gr u q → ∀ W, Fr No wc W → PickI w8 F b s gr u (q + 1) u7 W) := fun e W f => by
          refine ⟨hMc.frNo f, (HP.out.fr.trans fc).trans f.any, ?_, ?_⟩
          · rw [e]; exact own_fr2 hoc f (fun _ _ h => h)
          · rw [e]; exact HP.out.nil
        have hpl := pickTo_len s gr u q
        rw [HN.out] at hpl
        obtain ⟨m, hm⟩ : ∃ m, (pickTo s gr u q).length = m := ⟨_, rfl⟩
        have HMM : Hid ((pickTo s gr u q).length = m) := hm
        rw [hm] at hoc hpl
        have hc8s : w8.heap.size ≤ wc.heap.size := HPC.out.2.size
        clear hMc fc hm k8 c0r hxr hgr HB1 HGET
        have HH : Hid (Calls Tryz.prog 103 #[.string (str d.text), .string (str u)] wc fun e w' => e = .returned (.bool (decide (u ∈ wordsOf d.text))) ∧ Fr No wc w') := holds_any d.text u wc (by omega)
        by_cases hgo : gr < 0 ∨ d.group = gr
        · have hkeep : (decide (gr < 0) || decide (d.group = gr)) = true := by simpa using hgo
          rw [hkeep, Bool.true_and] at HBB
          have hds : (decide (0 ≤ gr) = false ∧ ¬ 0 ≤ gr) ∨ (decide (0 ≤ gr) = true ∧ 0 ≤ gr ∧ (d.group == gr) = true) := by
            by_cases h1 : gr < 0
            · left; exact ⟨by simp; omega, by omega⟩
            · right; exact ⟨by simp; omega, by omega, by simp; omega⟩
          clear hgo hkeep
          cases hw : decide (u ∈ wordsOf d.text) with
          | false =>
            rw [hw] at HBB HH
            have HK : Hid (∀ W, Fr No wc W → PickI w8 F b s gr u (q + 1) u7 W) := HSAME.out (HNO.out HBB.out)
            clear hw
            rcases hds with ⟨e1, e2⟩ | ⟨e1, e2, e3⟩
            all_goals
              go_wp2_with (go_at_call 103; refine HH.out.mono ?_; rintro e w4 ⟨rfl, f4⟩)
              go_roundw
              case rel => exact ⟨q + 1, by omega, by go_num, HK.out _ f4⟩
              case measure => simp [intOf]; omega
          | true =>
            rw [hw] at HBB HH
            have HT : Hid (pickTo s gr u (q + 1) = pickTo s gr u q ++ [id]) := HYES.out HBB.out
            obtain ⟨i0, hi, hz0, hz1, hz2⟩ := info_parts info3
            clear hw
            rcases hds with ⟨e1, e2⟩ | ⟨e1, e2, e3⟩
            all_goals
              go_wp2_with first
                | (go_at_call 103; refine HH.out.mono ?_; rintro e w4 ⟨rfl, f4⟩
                   have k4 := f4.cell kc (fun h => h)
                   have ho4 := own_fr2 hoc f4 (fun _ _ h => h)
                   have hs4 := f4.size)
                | (at_builtin; refine wpList_append_own_at _ rfl _ _ 55 rfl w8.heap.size 3 i0 (.int .i64 0) 1 8 Tryz.underlying55 hi hz0 hz1 hz2 rfl (by decide) u7 m _ rfl (ho4.alloc _) ⟨w4.heap.size, 0, none⟩ 1 1 [.int .i64 id] rfl rfl (cell_one_new _ _ _) (by intro u hu; simp only [List.mem_singleton] at hu; subst hu; rfl) (by unfold maxLen; omega) (by omega) (by simp; omega) ?_
                   intro v' w5 ho5 hg5 hnil5 hloc
                   have HK : Hid (PickI w8 F b s gr u (q + 1) v' w5) := by
                     have fx : Fr F w8 w4 := HPC.out.2.trans f4.any
                     obtain ⟨D5, a5, h5⟩ := HPC.out.1.frNo f4
                     refine ⟨(grow_ms h5 (fun k hk => Nat.lt_of_lt_of_le (HF.out k hk) HW8.out.1) ho4 (Nat.le_refl _) hg5).MS, grow_fr fx ho4 (Nat.le_refl _) hg5, ?_, fun e => by rw [HT.out] at e; simp at e⟩
                     rw [HT.out, List.map_append, List.length_append, HMM.out]; exact ho5
                   clear ho5 hg5 hloc)
              go_roundw
              case rel => exact ⟨q + 1, by omega, by go_num, HK.out⟩
              case measure => simp [intOf]; omega
        · have e1 : decide (0 ≤ gr) = true := by simp; omega
          have e2 : 0 ≤ gr := by omega
          have e3 : (d.group == gr) = false := by simp; omega
          have hkeep : (decide (gr < 0) || decide (d.group = gr)) = false := by simpa using hgo
          rw [hkeep, Bool.false_and] at HBB
          have HK : Hid (∀ W, Fr No wc W → PickI w8 F b s gr u (q + 1) u7 W) := HSAME.out (HNO.out HBB.out)
          clear hgo hkeep
          go_wp2
          go_roundw
          case rel => exact ⟨q + 1, by omega, by go_num, HK.out _ (Fr.refl _ _)⟩
          case measure => simp [intOf]; omega
    · have hqn : q = n := by omega
      have HE : Hid (MInts w F b s (pickL s gr u) (.returned u7) wr) := by
        have e : pickTo s gr u q = pickL s gr u := by unfold pickTo pickL; rw [List.take_of_length_le (by rw [HN.out]; omega)]
        have ho := hP.own
        have hnl := hP.nil
        rw [e] at ho hnl
        exact ⟨u7, rfl, own_base ho HW8.out.1, hP.st, HW8.out.2.trans hP.fr, hnl⟩
      have hd1 : ¬ (q : Int) < (n : Int) := by omega
      clear hP
      go_wp2
      go_ret
      exact HE.out
theorem mxDocs_any (u : Word) (h : MX w F x b s) (hf : Fine s B) : Calls Tryz.prog 71 #[.pointer (some ⟨x, 0, none⟩), .string (str u)] w (MXInts w F x b s (s.holders u)) := by
  obtain ⟨ax, h⟩ := h
  obtain ⟨c0, c1, fz, hxl⟩ := h.cells
  have HC : Hid (∀ v, Calls Tryz.prog 92 #[.pointer (some ⟨x, 0, none⟩), .int .i64 (-1), .string (str u)] (w.setCell ⟨x, 1, none⟩ (.int .i64 v)) (MXInts w F x b s (s.holders u))) := fun v => (pick_any x b F s B _ (-1) u v (h.ask v) hf).mono fun e w' ⟨v', h1, h2, h3, h4, h5⟩ => by
    rw [pick_all] at h2 h5
    exact ⟨v', h1, own_base h2 (by simp), ⟨v, (h.ask v).ofS h3 h4⟩, (askX_fr _).trans (fr_FX h4), h5⟩
  clear h
  go_enter Tryz.func71, Tryz.ntmps71
  go_wp2_with (go_at_call 92; refine (HC.out _).mono ?_; rintro e w1 ⟨v', rfl, h1⟩)
  go_ret
  exact ⟨v', rfl, h1⟩
theorem mxFreq_any (u : Word) (h : MX w F x b s) (hf : Fine s B) : Calls Tryz.prog 75 #[.pointer (some ⟨x, 0, none⟩), .string (str u)] w (MXAsk w F x b s (.int .i64 (cntW (hasOf s) u : Int))) := by
  obtain ⟨ax, h⟩ := h
  obtain ⟨c0, c1, fz, hxl⟩ := h.cells
  have HC : Hid (∀ v, Calls Tryz.prog 92 #[.pointer (some ⟨x, 0, none⟩), .int .i64 (-1), .string (str u)] (w.setCell ⟨x, 1, none⟩ (.int .i64 v)) fun e w' => ∃ ao co, e = .returned (.slice ao (cntW (hasOf s) u) co) ∧ MX w' F x b s ∧ Fr (FX F x) w w') := fun v => (pick_any x b F s B _ (-1) u v (h.ask v) hf).mono fun e w' ⟨v', h1, h2, h3, h4, h5⟩ => by
    rw [pick_all] at h2 h5
    obtain ⟨ao, co, hv⟩ := own_slice h2
    rw [holders_len] at hv
    exact ⟨ao, co, by rw [h1, hv], ⟨v, (h.ask v).ofS h3 h4⟩, (askX_fr _).trans (fr_FX h4)⟩
  clear h
  generalize cntW (hasOf s) u = cw at *
  go_enter Tryz.func75, Tryz.ntmps75
  go_wp2_with (go_at_call 92; refine (HC.out _).mono ?_; rintro e w1 ⟨ao, co, rfl, h1⟩)
  go_ret
  exact ⟨rfl, h1⟩
theorem mxTally_any (g : Int) (u : Word) (h : MX w F x b s) (hf : Fine s B) (hg : 0 ≤ g) : Calls Tryz.prog 73 #[.pointer (some ⟨x, 0, none⟩), .int .i64 g, .string (str u)] w (MXAsk w F x b s (.int .i64 (cntBy (hasOf s) s.groupOf (g, u) : Int))) := by
  obtain ⟨ax, h⟩ := h
  obtain ⟨c0, c1, fz, hxl⟩ := h.cells
  have HC : Hid (∀ v, Calls Tryz.prog 92 #[.pointer (some ⟨x, 0, none⟩), .int .i64 g, .string (str u)] (w.setCell ⟨x, 1, none⟩ (.int .i64 v)) fun e w' => ∃ ao co, e = .returned (.slice ao (cntBy (hasOf s) s.groupOf (g, u)) co) ∧ MX w' F x b s ∧ Fr (FX F x) w w') := fun v => (pick_any x b F s B _ g u v (h.ask v) hf).mono fun e w' ⟨v', h1, h2, h3, h4, h5⟩ => by
    obtain ⟨ao, co, hv⟩ := own_slice h2
    rw [pick_group s g u hg] at hv
    exact ⟨ao, co, by rw [h1, hv], ⟨v, (h.ask v).ofS h3 h4⟩, (askX_fr _).trans (fr_FX h4)⟩
  clear h
  have e1 : decide (g < 0) = false := by simp; omega
  have e2 : ¬ g < 0 := by omega
  generalize cntBy (hasOf s) s.groupOf (g, u) = cw at *
  go_enter Tryz.func73, Tryz.ntmps73
  go_wp2_with (go_at_call 92; refine (HC.out _).mono ?_; rintro e w1 ⟨ao, co, rfl, h1⟩)
  go_ret
  exact ⟨rfl, h1⟩
end
end Go.Proofs.Qxb6500357aGreat
