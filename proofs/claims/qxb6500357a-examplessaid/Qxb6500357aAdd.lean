import Derived.Test.Qxb6500357aStore5
import Derived.Test.Qxb6500357aIx2
import Derived.Test.Qxb6500357aEntry
import Derived.BigQuiet
import Derived.BigRegion
import Derived.WalkSpells
namespace Go.Proofs.Qxb6500357a
open Go.RowKit Go.Tag
set_option linter.unusedVariables false
set_option linter.unusedSimpArgs false
set_option maxRecDepth 100000
attribute [local simp] str_size
attribute [local go_sem] str_size

theorem zero124 (w : World) : (zeroValue 124).run Try.prog w = .ok (.agg #[.map none, .int .i64 0]) w := by kernel_rfl

/-- What add leaves. -/
def AddPost (w : World) (F : Nat → Prop) (x b bi bb : Nat) (H : Has) (grp : Int → Int) (id : Int) (ws : List Word) (e : Ending) (w' : World) : Prop :=
  e = .returned (.tuple #[]) ∧ (∃ q, IndexAt w' (fun k => F k ∨ Since w w' k) x b bi bb (addN H id ws ws.length) grp q) ∧ Fr F w w'
/-- The loop's state. -/
structure AddI (w : World) (F : Nat → Prop) (x b bi bb : Nat) (H : Has) (grp : Int → Int) (id : Int) (ws : List Word) (v : Value) (xb : Nat) (t : List UInt8) (q : Word → Nat) (wr : World) : Prop where
  ix : IndexAt wr (fun k => F k ∨ w.heap.size ≤ k) x b bi bb H grp q
  own : wr.ownsRow w.heap.size 9 1 v ws.length (ws.map vStr)
  fr : Fr F w wr
  box : wr.heap[xb]? = some (docO id (grp id) t)
  xb : w.heap.size ≤ xb

theorem own_keep {w w' : World} {base : Nat} {e : TypeId} {size : Nat} {v : Value} {n : Nat} {xs : List Value} (h : w.ownsRow base e size v n xs) (hk : ∀ k, v.ownBlock = some k → w'.heap[k]? = w.heap[k]?) : w'.ownsRow base e size v n xs := by
  obtain ⟨h1, h2⟩ := h
  refine ⟨h1, ?_⟩
  rcases h2 with h2 | ⟨g, cap, cur, rfl, hg, hh, hr⟩
  · exact .inl h2
  · exact .inr ⟨g, cap, cur, rfl, hg, (hk g rfl).trans hh, hr⟩
theorem AddI.frNo {w : World} {F : Nat → Prop} {x b bi bb : Nat} {H : Has} {grp : Int → Int} {id : Int} {ws : List Word} {v : Value} {xb : Nat} {t : List UInt8} {q : Word → Nat} {wr wr' : World} (h : AddI w F x b bi bb H grp id ws v xb t q wr) (hf : Fr No wr wr') : AddI w F x b bi bb H grp id ws v xb t q wr' :=
  ⟨h.ix.fr hf (fun _ _ h => h), own_fr h.own hf (fun _ _ h => h), h.fr.trans' hf (fun _ _ h => h.elim), hf.heap h.box (fun h => h), h.xb⟩

theorem add_tail {w : World} {F : Nat → Prop} {x b bi bb : Nat} {H : Has} {grp : Int → Int} {id : Int} {ws : List Word} {v : Value} {xb : Nat} {t : List UInt8} {q : Word → Nat} {wr WB : World} {u : Word} {q1 pb g cap j n : Nat} {c : Int}
    (hI : AddI w F x b bi bb H grp id ws v xb t q wr) (hid : 1 ≤ id ∧ id ≤ 9) (hno : H u id = false) (frB : Fr No wr WB) (hq : (cntW H u ≠ 0 ∧ q1 = q u) ∨ (cntW H u = 0 ∧ wr.heap.size ≤ q1)) (hm : MapFn WB q1 kInt (setB (H u)))
    (hp : WB.heap[pb]? = some (.cells #[.map (some q1), .int .i64 c] 124)) (hpb : wr.heap.size ≤ pb) (hc : c = cntW H u) (hv : v = .slice (some ⟨g, 0, none⟩) n cap) (hn : ws.length = n) (hj : ws[j]? = some u) :
    ∃ w1 w3 wE w4 st, (Instr.mapUpdate 112 (.map (some q1)) (.int .i64 id) (.bool true)).run Try.prog WB = .ok () w1 ∧
      w1.cell? ⟨pb, 0, none⟩ = some (.map (some q1)) ∧ w1.cell? ⟨pb, 1, none⟩ = some (.int .i64 c) ∧ (∀ i, w1.frozen? ⟨pb, i, none⟩ = false) ∧ w1.cell? ⟨x, 1, none⟩ = some (.map (some bi)) ∧ w1.cell? ⟨g, j, none⟩ = some (.string (str u)) ∧
      (Instr.mapUpdate 100 (.map (some bi)) (.string (str u)) (.agg #[.map (some q1), .int .i64 (c + 1)])).run Try.prog (w1.setCell ⟨pb, 1, none⟩ (.int .i64 (c + 1))).drew = .ok () w3 ∧
      w3.cell? ⟨x, 2, none⟩ = some (.map (some bb)) ∧ w3.cell? ⟨xb, 1, none⟩ = some (.int .i64 (grp id)) ∧ w3.cell? ⟨g, j, none⟩ = some (.string (str u)) ∧
      (Instr.lookup 101 (.map (some bb)) (.agg #[.int .i64 (grp id), .string (str u)]) false).run Try.prog w3.drew = .ok (.int .i64 (cntBy H grp (grp id, u))) w3.drew ∧
      (Instr.mapEntry 101 (.map (some bb)) (.agg #[.int .i64 (grp id), .string (str u)])).run Try.prog w3.drew = .ok (.tuple #[.int .i64 (cntBy H grp (grp id, u)), .int .i64 st]) wE ∧
      (Instr.lookup 101 (.map (some bb)) (.agg #[.int .i64 (grp id), .string (str u)]) false).run Try.prog wE = .ok (.int .i64 (cntBy H grp (grp id, u))) wE ∧
      (Instr.entryStore 101 (.map (some bb)) (.int .i64 st) (.int .i64 ((cntBy H grp (grp id, u) : Int) + 1))).run Try.prog wE = .ok () w4 ∧
      AddI w F x b bi bb (addH H u id) grp id ws v xb t (fun v => if v = u then q1 else q v) w4 := by
  subst hc hv
  have hB := hI.frNo frB
  obtain ⟨r1, r2, r3⟩ := hB.ix.ne_root
  have hgB := own_cells (hn ▸ hB.own)
  have hgB1 := own_cells (hn ▸ hI.own)
  obtain ⟨w1, hu1, hM1, ht1⟩ := hm.update' (P := Try.prog) (t := 112) keyInt Try.underlying112 id (.bool true)
  have hq1 : q1 ≠ x ∧ q1 ≠ bi ∧ q1 ≠ bb := by
    rcases hq with ⟨c, rfl⟩ | ⟨c, hlt⟩
    · exact ⟨r3 u c, (hB.ix.ne.2 u c).1, (hB.ix.ne.2 u c).2⟩
    · have := hI.ix.lt; omega
  have hq1p : q1 ≠ pb := map_ne_cells hm hp
  have hq1b : q1 ≠ xb := map_ne_cells hm hB.box
  have hown1 : q1 ≠ g := by have := own_ne_map hB.own hm; simp only [Value.ownBlock, ne_eq, Option.some.injEq] at this; exact fun e => this e.symm
  have hbig : bi ≠ g := by have := own_ne_map hB.own hB.ix.inv; simp only [Value.ownBlock, ne_eq, Option.some.injEq] at this; exact fun e => this e.symm
  have hbbg : bb ≠ g := by have := own_ne_map hB.own hB.ix.by_; simp only [Value.ownBlock, ne_eq, Option.some.injEq] at this; exact fun e => this e.symm
  have hbip : bi ≠ pb := map_ne_cells hB.ix.inv hp
  have hbbp : bb ≠ pb := map_ne_cells hB.ix.by_ hp
  have hbib : bi ≠ xb := map_ne_cells hB.ix.inv hB.box
  have hbbb : bb ≠ xb := map_ne_cells hB.ix.by_ hB.box
  have hxbp : xb ≠ pb := by have := lt_of_heap hI.box; omega
  have hxp : x ≠ pb := by have := hI.ix.lt.1; omega
  have hgp : g ≠ pb := by have := hgB1.2.1; omega
  have hp1 : w1.heap[pb]? = some (.cells #[.map (some q1), .int .i64 (cntW H u)] 124) := by rw [ht1.other (Ne.symm hq1p)]; exact hp
  have hx1 : w1.cell? ⟨x, 1, none⟩ = some (.map (some bi)) := ht1.cell (Ne.symm hq1.1) (by rw [cell_of_heap hB.ix.root]; rfl)
  have hx2 : w1.cell? ⟨x, 2, none⟩ = some (.map (some bb)) := ht1.cell (Ne.symm hq1.1) (by rw [cell_of_heap hB.ix.root]; rfl)
  have hg1 : w1.cell? ⟨g, j, none⟩ = some (.string (str u)) := ht1.cell (Ne.symm hown1) (hgB.2.2.1 j _ (by rw [List.getElem?_map, hj]; rfl))
  have hb1 : w1.cell? ⟨xb, 1, none⟩ = some (.int .i64 (grp id)) := ht1.cell (Ne.symm hq1b) (by rw [cell_of_heap hB.box]; rfl)
  have T2 : Fr (fun k => k = pb) w1 (w1.setCell ⟨pb, 1, none⟩ (.int .i64 ((cntW H u : Int) + 1))).drew := ((Fr.refl (fun k => k = pb) _).setCell (p := ⟨pb, 1, none⟩) (.inr rfl) _).drew
  have hinv2 : MapFn (w1.setCell ⟨pb, 1, none⟩ (.int .i64 ((cntW H u : Int) + 1))).drew bi kStr (fInv H q) := (hB.ix.inv.keep (ht1.other (Ne.symm hq1.2.1))).fr T2 hbip
  obtain ⟨w3, hu3, hM3, ht3⟩ := hinv2.update' (P := Try.prog) (t := 100) keyStr Try.underlying100 u (postV q1 (cntW H u + 1))
  have hby3 : MapFn w3.drew bb kPair (fBy H grp) := ((((hB.ix.by_.keep (ht1.other (Ne.symm hq1.2.2))).fr T2 hbbp).keep (ht3.other (Ne.symm hB.ix.ne.1))).fr ((Fr.refl No _).drew) (fun h => h))
  have hl := hby3.lookup_v (P := Try.prog) (t := 101) keyPair Try.underlying101 (zero3 _) (grp id, u)
  rw [fBy_getD] at hl
  obtain ⟨wE, st, he1, hte, hel, he2⟩ := hby3.entry3 (P := Try.prog) (t := 101) keyPair Try.underlying101 (zero3) (grp id, u)
  rw [fBy_getD] at he1 hel
  obtain ⟨w4, he3, hM4, ht4⟩ := he2 (.int .i64 ((cntBy H grp (grp id, u) : Int) + 1))
  have c3 : ∀ k o v, k ≠ bi → k ≠ pb → w1.cell? ⟨k, o, none⟩ = some v → w3.cell? ⟨k, o, none⟩ = some v := fun k o v h1 h2 hc => ht3.cell h1 (T2.cell hc h2)
  refine ⟨w1, w3, wE, w4, st, hu1, by rw [cell_of_heap hp1]; rfl, by rw [cell_of_heap hp1]; rfl, frozen_of_heap hp1, hx1, hg1, hu3, c3 _ _ _ (Ne.symm r1) hxp hx2, c3 _ _ _ (Ne.symm hbib) hxbp hb1, c3 _ _ _ (Ne.symm hbig) hgp hg1, hl, he1, hel, he3, ?_⟩
  have frA : Fr (fun k => k = bi ∨ k = bb ∨ k = q1) wr w4 := by
    have f1 : Fr (fun k => k = bi ∨ k = bb ∨ k = q1) wr w1 := frB.any.trans (ht1.fr.mono (fun k _ e => .inr (.inr e)))
    have f2 := f1.trans' T2 (fun k hk e => by omega)
    have f3 := f2.trans (ht3.fr.mono (fun k _ e => .inl e))
    exact (f3.drew).trans (ht4.fr.mono (fun k _ e => .inr (.inl e)))
  have o4 : ∀ k, k ≠ q1 → k ≠ pb → k ≠ bi → k ≠ bb → w4.heap[k]? = WB.heap[k]? := fun k h1 h2 h3 h4 => by
    rw [ht4.other h4]
    show w3.heap[k]? = _
    rw [ht3.other h3]
    show (w1.setCell ⟨pb, 1, none⟩ _).heap[k]? = _
    rw [← ht1.other h1]
    by_cases hk : k < w1.heap.size
    · exact T2.block k hk h2
    · have e1 : w1.heap[k]? = none := Array.getElem?_eq_none (by omega)
      rw [e1]; exact Array.getElem?_eq_none (by simp; omega)
  refine ⟨indexAt_add hI.ix hid hno hq (fun k hk => hk) ?_ ?_ ?_ hM4 frA, ?_, ?_, ?_, hI.xb⟩
  · rcases hq with ⟨c, rfl⟩ | ⟨c, hlt⟩
    · exact hI.ix.own.2.2.2 u c
    · right; have := hI.fr.size; omega
  · exact hM3.keep (by rw [ht4.other hB.ix.ne.1]; rfl)
  · refine hM1.keep ?_
    rw [ht4.other hq1.2.2]
    show w3.heap[q1]? = _
    rw [ht3.other hq1.2.1]
    exact T2.block q1 hM1.lt hq1p
  · refine own_keep hB.own ?_
    intro k hk
    simp only [Value.ownBlock, Option.some.injEq] at hk
    subst hk
    exact o4 _ (Ne.symm hown1) hgp (Ne.symm hbig) (Ne.symm hbbg)
  · refine hI.fr.trans' frA (fun k hk e => ?_)
    have ho := hI.ix.own
    rcases e with e | e | e
    · rw [e] at hk ⊢; rcases ho.2.1 with h | h
      · exact h
      · omega
    · rw [e] at hk ⊢; rcases ho.2.2.1 with h | h
      · exact h
      · omega
    · rcases hq with ⟨c, rfl⟩ | ⟨c, hlt⟩
      · rw [e] at hk ⊢; rcases ho.2.2.2 u c with h | h
        · exact h
        · omega
      · have := hI.fr.size; omega
  · rw [o4 _ (Ne.symm hq1b) hxbp (Ne.symm hbib) (Ne.symm hbbb)]; exact hB.box

set_option maxHeartbeats 1000000 in
theorem add_any (x b bi bb : Nat) (F : Nat → Prop) (H : Has) (grp : Int → Int) (q : Word → Nat) (id : Int) (t : List UInt8) (w : World) (h : IndexAt w F x b bi bb H grp q) (hid : 1 ≤ id ∧ id ≤ 9) (hH : ∀ u, H u id = false) (ht : t.length ≤ 12) :
    Calls Try.prog 64 #[.pointer (some ⟨x, 0, none⟩), .agg #[.int .i64 id, .int .i64 (grp id), .string (str t)]] w (AddPost w F x b bi bb H grp id (wordsOf t)) := by
  have HT : Hid (t.length ≤ 1000) := by show t.length ≤ 1000; omega
  have HX : Hid (IndexAt w F x b bi bb H grp q ∧ (1 ≤ id ∧ id ≤ 9) ∧ (∀ u, H u id = false) ∧ (wordsOf t).Nodup) := ⟨h, hid, hH, wordsOf_nodup t⟩
  have hwl : (wordsOf t).length ≤ 13 := by have := wordsOf_len t; omega
  have hwu : Hid (∀ u ∈ wordsOf t, u.length ≤ 12) := fun u hu => by have := (wordsOf_word t u hu).2; omega
  clear h hid hH
  go_enter Try.func64, Try.ntmps64
  go_wp2_with (go_at_call 90; refine (split_any t _ HT.out).mono ?_
               rintro e w1 ⟨v, rfl, hown, hfr⟩
               have HA : Hid (AddI w F x b bi bb H grp id (wordsOf t) v w.heap.size t q w1) := by
                 have hb1 := hfr.size
                 have hb : w1.heap[w.heap.size]? = some (docO id (grp id) t) := hfr.heap (heap_alloc_new w (docO id (grp id) t)) (fun h => h)
                 have hfr0 : Fr No w w1 := ((Fr.refl No w).alloc _).trans' hfr (fun _ _ h => h)
                 exact ⟨(HX.out.1.fr hfr0 (fun _ _ h => h)).mono (fun k hk => .inl hk), own_base hown (by simp), hfr0.any, hb, Nat.le_refl _⟩
               obtain ⟨ao, cap, rfl, hcl⟩ := own_sl hown
               simp only [List.length_map]
               clear hcl hown hfr)
  generalize wordsOf t = ws at *
  obtain ⟨n, hn⟩ : ∃ n, ws.length = n := ⟨_, rfl⟩
  have HN : Hid (ws.length = n) := hn
  rw [hn] at hwl
  simp only [hn]
  clear hn
  go_loopw [5] (fun i wr => ∃ (j : Nat) (q : Word → Nat), j ≤ n ∧ i = .int .i64 j ∧ AddI w F x b bi bb (addN H id ws j) grp id ws (.slice ao n cap) w.heap.size t q wr) (fun i _ => n - (intOf i).toNat)
  case atStart => exact ⟨0, q, Nat.zero_le _, rfl, by rw [addN_zero]; simp only [List.length_map, HN.out] at HA; exact HA.out⟩
  case round =>
    obtain ⟨j, q, hj, rfl, hI⟩ := hrel
    by_cases hlt : j < n
    · have hjl : j < ws.length := by rw [HN.out]; exact hlt
      have hown := hI.own
      rw [HN.out] at hown
      obtain ⟨g, cap', hv, -⟩ := own_at hown (by omega)
      cases hv
      obtain ⟨hg1, hg2, hcell, -, -⟩ := own_cells hown
      have hu12 := hwu.out ws[j] (List.getElem_mem hjl)
      have c0 : wr.cell? ⟨g, j, none⟩ = some (.string (str ws[j])) := hcell j _ (by simp [hjl, vStr])
      have hno := addN_no HX.out.2.2.2 HX.out.2.2.1 j hjl
      have hix := hI.ix
      have hju : ws[j]? = some ws[j] := List.getElem?_eq_getElem hjl
      have HS : Hid (addN H id ws (j + 1) = addH (addN H id ws j) ws[j] id) := addN_succ H id ws j hjl
      generalize addN H id ws j = H' at *
      generalize ws[j] = u at *
      have hnil := fun w r => run_eql_map_nil (P := Try.prog) w 112 3 4 r Try.underlying112
      have hr1 : wr.cell? ⟨x, 1, none⟩ = some (.map (some bi)) := by rw [cell_of_heap hix.root]; rfl
      have hb0 : wr.cell? ⟨w.heap.size, 0, none⟩ = some (.int .i64 id) := by rw [cell_of_heap hI.box]; rfl
      have hxw := hix.lt.1
      have hbw : w.heap.size < wr.heap.size := lt_of_heap hI.box
      have hcw9 := cntW_le H' u
      have hcb9 := cntBy_le H' grp (grp id, u)
      have HJ : Hid (ws[j]? = some u) := hju
      have HI : Hid (AddI w F x b bi bb H' grp id ws (.slice (some ⟨g, 0, none⟩) n cap) w.heap.size t q wr) := hI
      have hbi := hix.lt.2.1
      by_cases hcw : cntW H' u = 0
      · have hL : ∀ w', w'.heap[bi]? = wr.heap[bi]? → (Instr.lookup 100 (.map (some bi)) (.string (str u)) false).run Try.prog w' = .ok (.agg #[.map none, .int .i64 0]) w' := fun w' hw => by
          have := (hix.inv.keep hw).lookup_v (P := Try.prog) (t := 100) keyStr Try.underlying100 (zero124 _) u
          rw [fInv_getD0 _ _ _ hcw] at this; exact this
        have hlA := hL wr.drew rfl
        have hlB := fun o => hL (wr.alloc o).drew (Below.heap_alloc _ o _ hbi)
        have hmm := @run_makeMap Try.prog
        have frB : Fr No wr ((wr.alloc (.cells #[.map (some (wr.heap.size + 1)), .int .i64 0] 124)).alloc (.map #[] 0)).drew := (((Fr.refl _ _).alloc _).alloc _).drew
        have hP0 : ((wr.alloc (.cells #[.map (some (wr.heap.size + 1)), .int .i64 0] 124)).alloc (.map #[] 0)).drew.heap[wr.heap.size]? = some (.cells #[.map (some (wr.heap.size + 1)), .int .i64 0] 124) := by
          show ((wr.alloc _).alloc _).heap[wr.heap.size]? = _
          rw [Below.heap_alloc _ _ _ (by simp)]; exact heap_alloc_new _ _
        have hS0 : setB (H' u) = fun _ => none := by
          funext i
          unfold setB
          cases hh : H' u i with
          | false => rfl
          | true => have := cntW_pos hh (hix.dom u i hh); omega
        have hmB : MapFn ((wr.alloc (.cells #[.map (some (wr.heap.size + 1)), .int .i64 0] 124)).alloc (.map #[] 0)).drew (wr.heap.size + 1) kInt (setB (H' u)) := by
          rw [hS0]
          have h1 := mapFn_new (ke := kInt) (wr.alloc (.cells #[.map (some (wr.heap.size + 1)), .int .i64 0] 124))
          have e : (wr.alloc (.cells #[.map (some (wr.heap.size + 1)), .int .i64 0] 124)).heap.size = wr.heap.size + 1 := by simp
          rw [e] at h1
          exact h1.fr ((Fr.refl No _).drew) (fun h => h)
        obtain ⟨w1, w3, wE, w4, st, a1, a2, a3, a4, a5, a6, a7, a8, a9, a10, a11, a12, aL, a13, a14⟩ := add_tail (u := u) (c := 0) (q1 := wr.heap.size + 1) HI.out HX.out.2.1 hno frB (.inr ⟨hcw, Nat.le_succ _⟩) hmB (pb := wr.heap.size) hP0 (Nat.le_refl _) (by rw [hcw]; rfl) rfl HN.out HJ.out
        have HF : Hid _ := a14
        generalize cntBy H' grp (grp id, u) = cb at *
        have hwc : IntKind.i64.wrap ((cb : Int) + 1) = (cb : Int) + 1 := wrap_i64 _ (by omega) (by omega)
        simp only [Int.zero_add] at a7
        clear hL hcell hI hix a14 frB hP0 hS0 hmB hcw hcw9
        go_wp2
        go_region
        go_wp2
        go_region
        go_wp2
        go_region
        go_wp2
        go_roundw
        case rel => exact ⟨j + 1, _, by omega, by go_num, by rw [HS.out]; exact HF.out⟩
        case measure => simp [intOf]; omega
      · have hL : ∀ w', w'.heap[bi]? = wr.heap[bi]? → (Instr.lookup 100 (.map (some bi)) (.string (str u)) false).run Try.prog w' = .ok (.agg #[.map (some (q u)), .int .i64 (cntW H' u)]) w' := fun w' hw => by
          have := (hix.inv.keep hw).lookup_v (P := Try.prog) (t := 100) keyStr Try.underlying100 (zero124 _) u
          rw [fInv_getD _ _ _ hcw] at this; exact this
        have hlA := hL wr.drew rfl
        have hlB := fun o => hL (wr.alloc o).drew (Below.heap_alloc _ o _ hbi)
        have frB : Fr No wr (wr.alloc (.cells #[.map (some (q u)), .int .i64 (cntW H' u)] 124)).drew := ((Fr.refl _ _).alloc _).drew
        obtain ⟨w1, w3, wE, w4, st, a1, a2, a3, a4, a5, a6, a7, a8, a9, a10, a11, a12, aL, a13, a14⟩ := add_tail (u := u) HI.out HX.out.2.1 hno frB (.inl ⟨hcw, rfl⟩) ((hix.set u hcw).fr frB (fun h => h)) (pb := wr.heap.size) (heap_alloc_new _ _) (Nat.le_refl _) rfl rfl HN.out HJ.out
        have HF : Hid _ := a14
        generalize cntBy H' grp (grp id, u) = cb at *
        have hwc : IntKind.i64.wrap ((cb : Int) + 1) = (cb : Int) + 1 := wrap_i64 _ (by omega) (by omega)
        obtain ⟨cw, hcwe⟩ : ∃ cw, cntW H' u = cw := ⟨_, rfl⟩
        simp only [hcwe] at hlA hlB a1 a3 a7 hcw9
        clear hL hcell hI hix frB a14 hcw hcwe
        go_wp2
        go_region
        go_wp2
        go_region
        go_wp2
        go_region
        go_wp2
        go_roundw
        case rel => exact ⟨j + 1, _, by omega, by go_num, by rw [HS.out]; exact HF.out⟩
        case measure => simp [intOf]; omega
    · have HE : Hid (AddPost w F x b bi bb H grp id ws (.returned (.tuple #[])) wr) := by
        have e : j = n := by omega
        refine ⟨rfl, ⟨q, ?_⟩, hI.fr⟩
        have := hI.ix.bound
        rw [HN.out, ← e]
        exact this.mono (fun k hk => or_to hk.1 _root_.id (fun h => ⟨h, hk.2⟩))
      clear hI
      go_wp2
      go_end0
      exact HE.out
end Go.Proofs.Qxb6500357a
