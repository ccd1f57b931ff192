import Derived.Test.Qxb6500357aGreatAdd
namespace Go.Proofs.Qxb6500357aGreat
open Go.RowKit Go.Tag
set_option linter.unusedVariables false
set_option linter.unusedSimpArgs false
set_option maxRecDepth 100000
attribute [local simp] str_size
attribute [local go_sem] str_size

/-- What remove leaves. -/
def RemPost (w : World) (F : Nat → Prop) (x b bi bb : Nat) (H : Has) (grp : Int → Int) (id : Int) (ws : List Word) (e : Ending) (w' : World) : Prop :=
  e = .returned (.tuple #[]) ∧ (∃ q, IndexAt w' (fun k => F k ∨ Since w w' k) x b bi bb (subN H id ws ws.length) grp q) ∧ Fr F w w'

/-- Behind the posting's turn. -/
structure RemMid (w : World) (F : Nat → Prop) (x b bi bb : Nat) (H : Has) (grp : Int → Int) (id : Int) (ws : List Word) (v : Value) (xb : Nat) (t : List UInt8) (q : Word → Nat) (u : Word) (wr w3 : World) : Prop where
  old : AddI w F x b bi bb H grp id ws v xb t q wr
  inv : MapFn w3 bi kStr (upd (fInv H q) u (if cntW H u = 1 then none else some (postV (q u) (cntW H u - 1))))
  set : MapFn w3 (q u) kInt (upd (setB (H u)) id none)
  by_ : MapFn w3 bb kPair (fBy H grp)
  fr : Fr (fun k => k = bi ∨ k = bb ∨ k = q u) wr w3
  own : w3.ownsRow w.heap.size 9 1 v ws.length (ws.map vStr)
  box : w3.heap[xb]? = some (docO id (grp id) t)

theorem rem_tail1 {w : World} {F : Nat → Prop} {x b bi bb : Nat} {H : Has} {grp : Int → Int} {id : Int} {ws : List Word} {v : Value} {xb : Nat} {t : List UInt8} {q : Word → Nat} {wr WB : World} {u : Word} {pb g cap j n : Nat} {c : Int}
    (hI : AddI w F x b bi bb H grp id ws v xb t q wr) (hid : 1 ≤ id ∧ id ≤ 9) (hyes : H u id = true) (frB : Fr No wr WB)
    (hp : WB.heap[pb]? = some (.cells #[.map (some (q u)), .int .i64 c] 109)) (hpb : wr.heap.size ≤ pb) (hc : c = cntW H u) (hv : v = .slice (some ⟨g, 0, none⟩) n cap) (hn : ws.length = n) (hj : ws[j]? = some u) :
    ∃ w1, (∀ kt ty, (Builtin.delete_ #[93, kt] ty #[.map (some (q u)), .int .i64 id]).run Tryz.prog WB = .ok (.tuple #[]) w1) ∧
      w1.cell? ⟨pb, 0, none⟩ = some (.map (some (q u))) ∧ w1.cell? ⟨pb, 1, none⟩ = some (.int .i64 c) ∧ (∀ i, w1.frozen? ⟨pb, i, none⟩ = false) ∧ w1.cell? ⟨x, 1, none⟩ = some (.map (some bi)) ∧ w1.cell? ⟨g, j, none⟩ = some (.string (str u)) ∧
      ((c = 1 ∧ ∃ w3, (∀ kt ty, (Builtin.delete_ #[71, kt] ty #[.map (some bi), .string (str u)]).run Tryz.prog (w1.setCell ⟨pb, 1, none⟩ (.int .i64 (c - 1))).drew = .ok (.tuple #[]) w3) ∧
        w3.cell? ⟨x, 2, none⟩ = some (.map (some bb)) ∧ w3.cell? ⟨xb, 1, none⟩ = some (.int .i64 (grp id)) ∧ w3.cell? ⟨g, j, none⟩ = some (.string (str u)) ∧ RemMid w F x b bi bb H grp id ws v xb t q u wr w3) ∨
       (c ≠ 1 ∧ ∃ w3, (Instr.mapUpdate 71 (.map (some bi)) (.string (str u)) (.agg #[.map (some (q u)), .int .i64 (c - 1)])).run Tryz.prog (w1.setCell ⟨pb, 1, none⟩ (.int .i64 (c - 1))).drew = .ok () w3 ∧
        w3.cell? ⟨x, 2, none⟩ = some (.map (some bb)) ∧ w3.cell? ⟨xb, 1, none⟩ = some (.int .i64 (grp id)) ∧ w3.cell? ⟨g, j, none⟩ = some (.string (str u)) ∧ RemMid w F x b bi bb H grp id ws v xb t q u wr w3)) := by
  subst hc hv
  have hcu : cntW H u ≠ 0 := by have := cntW_pos hyes hid; omega
  have hB := hI.frNo frB
  obtain ⟨r1, r2, r3⟩ := hB.ix.ne_root
  have hgB := own_cells (hn ▸ hB.own)
  have hgB1 := own_cells (hn ▸ hI.own)
  have hm := hB.ix.set u hcu
  obtain ⟨w1, hu1, hM1, ht1⟩ := hm.delete' (P := Tryz.prog) (t := 93) keyInt Tryz.underlying93 id
  have hq1 : q u ≠ x ∧ q u ≠ bi ∧ q u ≠ bb := ⟨r3 u hcu, (hB.ix.ne.2 u hcu).1, (hB.ix.ne.2 u hcu).2⟩
  have hq1p : q u ≠ pb := map_ne_cells hm hp
  have hq1b : q u ≠ xb := map_ne_cells hm hB.box
  have hown1 : q u ≠ g := by have := own_ne_map hB.own hm; simp only [Value.ownBlock, ne_eq, Option.some.injEq] at this; exact fun e => this e.symm
  have hbig : bi ≠ g := by have := own_ne_map hB.own hB.ix.inv; simp only [Value.ownBlock, ne_eq, Option.some.injEq] at this; exact fun e => this e.symm
  have hbip : bi ≠ pb := map_ne_cells hB.ix.inv hp
  have hbbp : bb ≠ pb := map_ne_cells hB.ix.by_ hp
  have hbib : bi ≠ xb := map_ne_cells hB.ix.inv hB.box
  have hxbp : xb ≠ pb := by have := lt_of_heap hI.box; omega
  have hxp : x ≠ pb := by have := hI.ix.lt.1; omega
  have hgp : g ≠ pb := by have := hgB1.2.1; omega
  have hp1 : w1.heap[pb]? = some (.cells #[.map (some (q u)), .int .i64 (cntW H u)] 109) := by rw [ht1.other (Ne.symm hq1p)]; exact hp
  have hx1 : w1.cell? ⟨x, 1, none⟩ = some (.map (some bi)) := ht1.cell (Ne.symm hq1.1) (by rw [cell_of_heap hB.ix.root]; rfl)
  have hx2 : w1.cell? ⟨x, 2, none⟩ = some (.map (some bb)) := ht1.cell (Ne.symm hq1.1) (by rw [cell_of_heap hB.ix.root]; rfl)
  have hg1 : w1.cell? ⟨g, j, none⟩ = some (.string (str u)) := ht1.cell (Ne.symm hown1) (hgB.2.2.1 j _ (by rw [List.getElem?_map, hj]; rfl))
  have hb1 : w1.cell? ⟨xb, 1, none⟩ = some (.int .i64 (grp id)) := ht1.cell (Ne.symm hq1b) (by rw [cell_of_heap hB.box]; rfl)
  have T2 : Fr (fun k => k = pb) w1 (w1.setCell ⟨pb, 1, none⟩ (.int .i64 ((cntW H u : Int) - 1))).drew := ((Fr.refl (fun k => k = pb) _).setCell (p := ⟨pb, 1, none⟩) (.inr rfl) _).drew
  have hinv2 : MapFn (w1.setCell ⟨pb, 1, none⟩ (.int .i64 ((cntW H u : Int) - 1))).drew bi kStr (fInv H q) := (hB.ix.inv.keep (ht1.other (Ne.symm hq1.2.1))).fr T2 hbip
  have mid : ∀ w3, MapFn w3 bi kStr (upd (fInv H q) u (if cntW H u = 1 then none else some (postV (q u) (cntW H u - 1)))) → Turned bi (w1.setCell ⟨pb, 1, none⟩ (.int .i64 ((cntW H u : Int) - 1))).drew w3 →
      w3.cell? ⟨x, 2, none⟩ = some (.map (some bb)) ∧ w3.cell? ⟨xb, 1, none⟩ = some (.int .i64 (grp id)) ∧ w3.cell? ⟨g, j, none⟩ = some (.string (str u)) ∧ RemMid w F x b bi bb H grp id ws (.slice (some ⟨g, 0, none⟩) n cap) xb t q u wr w3 := by
    intro w3 hM3 ht3
    have c3 : ∀ k o v, k ≠ bi → k ≠ pb → w1.cell? ⟨k, o, none⟩ = some v → w3.cell? ⟨k, o, none⟩ = some v := fun k o v h1 h2 hc => ht3.cell h1 (T2.cell hc h2)
    have o3 : ∀ k, k < WB.heap.size → k ≠ q u → k ≠ pb → k ≠ bi → w3.heap[k]? = WB.heap[k]? := fun k hk h1 h2 h3 => by
      rw [ht3.other h3, T2.block k (by rw [ht1.size]; exact hk) h2, ht1.other h1]
    refine ⟨c3 _ _ _ (Ne.symm r1) hxp hx2, c3 _ _ _ (Ne.symm hbib) hxbp hb1, c3 _ _ _ (Ne.symm hbig) hgp hg1, hI, hM3, ?_, ?_, ?_, ?_, ?_⟩
    · refine hM1.keep ?_
      rw [ht3.other hq1.2.1]
      exact T2.block _ hM1.lt hq1p
    · exact hB.ix.by_.keep (o3 _ hB.ix.by_.lt (Ne.symm hq1.2.2) hbbp (Ne.symm hB.ix.ne.1))
    · have f1 : Fr (fun k => k = bi ∨ k = bb ∨ k = q u) wr w1 := frB.any.trans (ht1.fr.mono (fun k _ e => .inr (.inr e)))
      have f2 := f1.trans' T2 (fun k hk e => by omega)
      exact f2.trans (ht3.fr.mono (fun k _ e => .inl e))
    · refine own_keep hB.own ?_
      intro k hk
      simp only [Value.ownBlock, Option.some.injEq] at hk
      subst hk
      exact o3 _ hgB.2.1 (Ne.symm hown1) hgp (Ne.symm hbig)
    · rw [o3 _ (lt_of_heap hB.box) (Ne.symm hq1b) hxbp (Ne.symm hbib)]; exact hB.box
  refine ⟨w1, hu1, by rw [cell_of_heap hp1]; rfl, by rw [cell_of_heap hp1]; rfl, frozen_of_heap hp1, hx1, hg1, ?_⟩
  by_cases h1 : cntW H u = 1
  · obtain ⟨w3, hu3, hM3, ht3⟩ := hinv2.delete' (P := Tryz.prog) (t := 71) keyStr Tryz.underlying71 u
    exact .inl ⟨by omega, w3, hu3, mid w3 (by rw [if_pos h1]; exact hM3) ht3⟩
  · obtain ⟨w3, hu3, hM3, ht3⟩ := hinv2.update' (P := Tryz.prog) (t := 71) keyStr Tryz.underlying71 u (postV (q u) (cntW H u - 1))
    refine .inr ⟨by omega, w3, ?_, mid w3 (by rw [if_neg h1]; exact hM3) ht3⟩
    have e : ((cntW H u - 1 : Nat) : Int) = (cntW H u : Int) - 1 := by omega
    unfold postV at hu3
    rw [e] at hu3
    exact hu3

theorem rem_tail2 {w : World} {F : Nat → Prop} {x b bi bb : Nat} {H : Has} {grp : Int → Int} {id : Int} {ws : List Word} {v : Value} {xb : Nat} {t : List UInt8} {q : Word → Nat} {wr w3 W5 : World} {u : Word} {kb : Nat}
    (hM : RemMid w F x b bi bb H grp id ws v xb t q u wr w3) (hid : 1 ≤ id ∧ id ≤ 9) (hyes : H u id = true) (frB : Fr No w3 W5) (hk : W5.heap[kb]? = some (.cells #[.int .i64 (grp id), .string (str u)] 78)) :
    ∃ wE w4 st cb, cb = (cntBy H grp (grp id, u) : Int) ∧ (Instr.lookup 72 (.map (some bb)) (.agg #[.int .i64 (grp id), .string (str u)]) false).run Tryz.prog W5 = .ok (.int .i64 cb) W5 ∧
      (Instr.mapEntry 72 (.map (some bb)) (.agg #[.int .i64 (grp id), .string (str u)])).run Tryz.prog W5 = .ok (.tuple #[.int .i64 cb, .int .i64 st]) wE ∧
      (Instr.lookup 72 (.map (some bb)) (.agg #[.int .i64 (grp id), .string (str u)]) false).run Tryz.prog wE = .ok (.int .i64 cb) wE ∧
      (Instr.entryStore 72 (.map (some bb)) (.int .i64 st) (.int .i64 (cb - 1))).run Tryz.prog wE = .ok () w4 ∧
      w4.cell? ⟨x, 2, none⟩ = some (.map (some bb)) ∧ w4.cell? ⟨kb, 0, none⟩ = some (.int .i64 (grp id)) ∧ w4.cell? ⟨kb, 1, none⟩ = some (.string (str u)) ∧
      (Instr.lookup 72 (.map (some bb)) (.agg #[.int .i64 (grp id), .string (str u)]) false).run Tryz.prog w4.drew = .ok (.int .i64 (cb - 1)) w4.drew ∧
      ((cb = 1 ∧ ∃ w5, (∀ kt ty, (Builtin.delete_ #[72, kt] ty #[.map (some bb), .agg #[.int .i64 (grp id), .string (str u)]]).run Tryz.prog w4.drew.drew = .ok (.tuple #[]) w5) ∧ AddI w F x b bi bb (subH H u id) grp id ws v xb t q w5) ∨
       (cb ≠ 1 ∧ AddI w F x b bi bb (subH H u id) grp id ws v xb t q w4.drew)) := by
  have hI := hM.old
  have hcu : cntW H u ≠ 0 := by have := cntW_pos hyes hid; omega
  obtain ⟨r1, r2, r3⟩ := hI.ix.ne_root
  have hby := hM.by_.fr frB (fun h => h)
  have hl := hby.lookup_v (P := Tryz.prog) (t := 72) keyPair Tryz.underlying72 (zero3 _) (grp id, u)
  rw [fBy_getD] at hl
  obtain ⟨wE, st, he1, hte, hel, he2⟩ := hby.entry3 (P := Tryz.prog) (t := 72) keyPair Tryz.underlying72 (zero3) (grp id, u)
  rw [fBy_getD] at he1 hel
  obtain ⟨w4, he3, hM4, ht4⟩ := he2 (.int .i64 ((cntBy H grp (grp id, u) : Int) - 1))
  have hbk : bb ≠ kb := map_ne_cells hby hk
  have hk4 : w4.heap[kb]? = some (.cells #[.int .i64 (grp id), .string (str u)] 78) := by rw [ht4.other (Ne.symm hbk)]; exact hk
  have hx5 : W5.heap[x]? = some (.cells #[.pointer (some ⟨b, 0, none⟩), .map (some bi), .map (some bb)] 74) := frB.heap (hM.fr.heap hI.ix.root (fun e => e.elim (fun e => r1 e.symm) (fun e => e.elim (fun e => r2 e.symm) (fun e => r3 u hcu e.symm)))) (fun h => h)
  have hx4 : w4.cell? ⟨x, 2, none⟩ = some (.map (some bb)) := by rw [cell_of_heap (by rw [ht4.other (Ne.symm r2)]; exact hx5)]; rfl
  have hM4d : MapFn w4.drew bb kPair (upd (fBy H grp) (grp id, u) (some (.int .i64 ((cntBy H grp (grp id, u) : Int) - 1)))) := hM4.fr ((Fr.refl No _).drew) (fun h => h)
  have hl4 := hM4d.lookup_v (P := Tryz.prog) (t := 72) keyPair Tryz.underlying72 (zero3 _) (grp id, u)
  rw [upd_same] at hl4
  have fin : ∀ w5, MapFn w5 bb kPair (upd (fBy H grp) (grp id, u) (if (cntBy H grp (grp id, u) : Int) = 1 then none else some (.int .i64 ((cntBy H grp (grp id, u) : Int) - 1)))) → (∀ k, k ≠ bb → k < W5.heap.size → w5.heap[k]? = W5.heap[k]?) → Fr (fun k => k = bb) W5 w5 → AddI w F x b bi bb (subH H u id) grp id ws v xb t q w5 := by
    intro w5 hm hoth hfr
    have fA : Fr (fun k => k = bi ∨ k = bb ∨ k = q u) wr w5 := (hM.fr.trans frB.any).trans (hfr.mono (fun k _ e => .inr (.inl e)))
    have h5 := hM.set.fr frB (fun h => h)
    refine ⟨indexAt_sub hI.ix hid hyes ?_ ?_ hm fA, ?_, ?_, ?_, hI.xb⟩
    · have := hM.inv.fr frB (fun h => h)
      exact this.keep (hoth _ hI.ix.ne.1 this.lt)
    · exact h5.keep (hoth _ (hI.ix.ne.2 u hcu).2 h5.lt)
    · have ho := own_fr hM.own frB (fun _ _ h => h)
      exact own_fr ho hfr (fun k hk e => by rw [e] at hk; exact own_ne_map ho hby hk)
    · refine hI.fr.trans' fA (fun k hk e => ?_)
      have ho := hI.ix.own
      rcases e with e | e | e
      · rw [e] at hk ⊢; rcases ho.2.1 with h | h
        · exact h
        · omega
      · rw [e] at hk ⊢; rcases ho.2.2.1 with h | h
        · exact h
        · omega
      · rw [e] at hk ⊢; rcases ho.2.2.2 u hcu with h | h
        · exact h
        · omega
    · have hb := frB.heap hM.box (fun h => h)
      rw [hoth _ (Ne.symm (map_ne_cells hby hb)) (lt_of_heap hb)]; exact hb
  refine ⟨wE, w4, st, _, rfl, hl, he1, hel, he3, hx4, by rw [cell_of_heap hk4]; rfl, by rw [cell_of_heap hk4]; rfl, hl4, ?_⟩
  by_cases h1 : (cntBy H grp (grp id, u) : Int) = 1
  · have hM4dd : MapFn w4.drew.drew bb kPair _ := hM4d.fr ((Fr.refl No _).drew) (fun h => h)
    obtain ⟨w5, hu5, hM5, ht5⟩ := hM4dd.delete' (P := Tryz.prog) (t := 72) keyPair Tryz.underlying72 (grp id, u)
    refine .inl ⟨h1, w5, hu5, fin w5 ?_ (fun k hk hl => ?_) ?_⟩
    · rw [if_pos h1]
      refine hM5.congr fun k => ?_
      unfold upd; by_cases hk : k = (grp id, u) <;> simp [hk]
    · rw [ht5.other hk]; show w4.heap[k]? = _; exact ht4.other hk
    · exact (ht4.fr.drew.drew).trans ht5.fr
  · refine .inr ⟨h1, fin _ ?_ (fun k hk hl => ?_) ?_⟩
    · rw [if_neg h1]; exact hM4d
    · show w4.heap[k]? = _; exact ht4.other hk
    · exact ht4.fr.drew
end Go.Proofs.Qxb6500357aGreat
