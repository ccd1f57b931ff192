import Derived.Test.Qxb6500357aTurn
import Derived.Test.Qxb6500357aStands
namespace Go.Tag
open Go.RowKit
set_option linter.unusedVariables false
set_option linter.unusedSimpArgs false
/-- n cells in a row. -/
def RowK (w : World) (b n : Nat) (f : Nat → Value) : Prop := ∃ (arr : Array Value) (ty : TypeId), w.heap[b]? = some (.cells arr ty) ∧ arr.size = n ∧ ∀ i, i < n → arr[i]? = some (f i)
section
variable {w w' : World} {b n : Nat} {f g : Nat → Value}
theorem RowK.lt (h : RowK w b n f) : b < w.heap.size := let ⟨_, _, h1, _⟩ := h; lt_of_heap h1
theorem RowK.keep (h : RowK w b n f) (hb : w'.heap[b]? = w.heap[b]?) : RowK w' b n f := let ⟨a, t, h1, h2⟩ := h; ⟨a, t, hb.trans h1, h2⟩
theorem RowK.fr (h : RowK w b n f) {S : Nat → Prop} (hf : Fr S w w') (hs : ¬ S b) : RowK w' b n f := h.keep (hf.block b h.lt hs)
theorem RowK.cell (h : RowK w b n f) {i : Nat} (hi : i < n) : w.cell? ⟨b, i, none⟩ = some (f i) := by
  obtain ⟨a, t, h1, h2, h3⟩ := h
  rw [cell_of_heap h1]; exact h3 i hi
theorem RowK.frozen (h : RowK w b n f) (i : Nat) : w.frozen? ⟨b, i, none⟩ = false := by
  obtain ⟨a, t, h1, h2, h3⟩ := h
  exact frozen_of_heap h1 i
theorem RowK.set (h : RowK w b n f) {i : Nat} (hi : i < n) (v : Value) : RowK (w.setCell ⟨b, i, none⟩ v) b n (updN f i v) := by
  obtain ⟨a, t, h1, h2, h3⟩ := h
  refine ⟨_, t, heap_setCell_same h1 i v, by simpa using h2, fun j hj => ?_⟩
  unfold updN
  by_cases e : j = i
  · subst e; rw [if_pos rfl, Array.getElem?_setIfInBounds_self_of_lt (by omega)]
  · rw [if_neg e, Array.getElem?_setIfInBounds_ne (Ne.symm e)]; exact h3 j hj
theorem RowK.congr (h : RowK w b n f) (hg : ∀ i, i < n → g i = f i) : RowK w b n g := by
  obtain ⟨a, t, h1, h2, h3⟩ := h
  exact ⟨a, t, h1, h2, fun i hi => by rw [hg i hi]; exact h3 i hi⟩
theorem RowK.sl (h : RowK w b n f) {xs : List Value} (hl : xs.length = n) (hx : ∀ i, i < n → xs[i]? = some (f i)) : Sl w (.slice (some ⟨b, 0, none⟩) n n) xs := by
  refine ⟨_, n, by rw [hl], fun j u hj => ⟨b, 0, rfl, ?_⟩⟩
  have hj' : j < n := by rw [← hl]; exact (List.getElem?_eq_some_iff.1 hj).1
  rw [Nat.zero_add, h.cell hj', ← hx j hj', hj]
end

/-- The ids below j. -/
def idsTo (j : Nat) : List Int := (List.range (j - 1)).map fun (k : Nat) => ((k : Int) + 1)
theorem idsTo_one : idsTo 1 = [] := rfl
theorem idsTo_ten : idsTo 10 = idsAll := by decide
theorem idsTo_succ (j : Nat) (h : 1 ≤ j) : idsTo (j + 1) = idsTo j ++ [(j : Int)] := by
  unfold idsTo
  rw [show j + 1 - 1 = (j - 1) + 1 by omega, List.range_succ, List.map_append]
  simp only [List.map_cons, List.map_nil]
  rw [show (((j - 1 : Nat) : Int) + 1) = (j : Int) by omega]
def holdTo (s : St) (u : Word) (j : Nat) : List Int := (idsTo j).filter (hasOf s u)
def tallyTo (s : St) (u : Word) (j : Nat) (g : Nat) : Nat := ((idsTo j).filter fun i => hasOf s u i && decide (s.groupOf i = (g : Int))).length
theorem holdTo_no (s : St) (u : Word) (j : Nat) (hj : 1 ≤ j) (h : hasOf s u (j : Int) = false) : holdTo s u (j + 1) = holdTo s u j ∧ ∀ g, tallyTo s u (j + 1) g = tallyTo s u j g := by
  unfold holdTo tallyTo
  rw [idsTo_succ j hj]
  simp [List.filter_append, h]
theorem holdTo_yes (s : St) (u : Word) (j : Nat) (hj : 1 ≤ j) (h : hasOf s u (j : Int) = true) : holdTo s u (j + 1) = holdTo s u j ++ [(j : Int)] ∧ ∀ g, tallyTo s u (j + 1) g = tallyTo s u j g + (if s.groupOf (j : Int) = (g : Int) then 1 else 0) := by
  unfold holdTo tallyTo
  rw [idsTo_succ j hj]
  refine ⟨by simp [List.filter_append, h], fun g => ?_⟩
  rw [List.filter_append, List.length_append]
  congr 1
  by_cases e : s.groupOf (j : Int) = (g : Int) <;> simp [h, e]
theorem holdTo_len (s : St) (u : Word) (j : Nat) (h : j ≤ 10) : (holdTo s u j).length ≤ 9 := by
  have := List.length_filter_le (hasOf s u) (idsTo j)
  unfold holdTo
  have : (idsTo j).length = j - 1 := by simp [idsTo]
  omega
theorem tallyTo_le (s : St) (u : Word) (j g : Nat) (h : j ≤ 10) : tallyTo s u j g ≤ 9 := by
  unfold tallyTo
  have := List.length_filter_le (fun i => hasOf s u i && decide (s.groupOf i = (g : Int))) (idsTo j)
  have : (idsTo j).length = j - 1 := by simp [idsTo]
  omega
theorem holdTo_ten (s : St) (u : Word) : holdTo s u 10 = s.holders u := by unfold holdTo St.holders; rw [idsTo_ten]
theorem tallyTo_ten (s : St) (u : Word) (g : Nat) : tallyTo s u 10 g = cntBy (hasOf s) s.groupOf ((g : Int), u) := by unfold tallyTo cntBy; rw [idsTo_ten]
end Go.Tag
namespace Go.Proofs.Qxb6500357a
open Go.RowKit Go.Tag
set_option linter.unusedVariables false
set_option linter.unusedSimpArgs false
set_option maxRecDepth 100000
attribute [local simp] str_size
attribute [local go_sem] str_size

/-- The ghost's holders' loop. -/
structure HoldI (w : World) (s : St) (u : Word) (j : Nat) (v : Value) (wr : World) : Prop where
  own : wr.ownsRow (w.heap.size + 1) 3 1 v (holdTo s u j).length ((holdTo s u j).map (Value.int .i64))
  row : RowK wr w.heap.size 3 (fun g => .int .i64 (tallyTo s u j g : Nat))
  fr : Fr No w wr
  nil : holdTo s u j = [] → v = .slice none 0 0
/-- What Holding leaves: the ids; the tallies. -/
def HoldPost (w : World) (s : St) (u : Word) (e : Ending) (w' : World) : Prop :=
  ∃ v b, e = .returned (.tuple #[v, .slice (some ⟨b, 0, none⟩) 3 3]) ∧ w'.ownsRow (w.heap.size + 1) 3 1 v (s.holders u).length ((s.holders u).map (Value.int .i64)) ∧ RowK w' b 3 (fun g => .int .i64 (cntBy (hasOf s) s.groupOf ((g : Int), u) : Nat)) ∧ b = w.heap.size ∧ Fr No w w'

theorem HoldI.no {w : World} {s : St} {u : Word} {j : Nat} {v : Value} {wr w1 : World} (h : HoldI w s u j v wr) (hj : 1 ≤ j) (hh : hasOf s u (j : Int) = false) (f : Fr No wr w1) : HoldI w s u (j + 1) v w1 := by
  obtain ⟨e1, e2⟩ := holdTo_no s u j hj hh
  refine ⟨by rw [e1]; exact own_fr h.own f (fun _ _ h => h), (h.row.fr f (fun h => h)).congr (fun i _ => by rw [e2]), h.fr.trans f, by rw [e1]; exact h.nil⟩
theorem HoldI.yes {w : World} {s : St} {u : Word} {j : Nat} {v v' : Value} {wr w1 : World} {g : Nat} (h : HoldI w s u j v wr) (hj : 1 ≤ j) (hh : hasOf s u (j : Int) = true) (hg : s.groupOf (j : Int) = (g : Int)) (hg3 : g < 3)
    (hown : w1.ownsRow (w.heap.size + 1) 3 1 v' ((holdTo s u j).length + 1) ((holdTo s u j).map (Value.int .i64) ++ [.int .i64 (j : Int)])) (f : Fr (fun k => v.ownBlock = some k) wr w1) :
    HoldI w s u (j + 1) v' (w1.setCell ⟨w.heap.size, g, none⟩ (.int .i64 ((tallyTo s u j g : Int) + 1))) := by
  obtain ⟨e1, e2⟩ := holdTo_yes s u j hj hh
  have hv : v.ownBlock ≠ some w.heap.size := fun e => by have := own_ge h.own e; omega
  have f2 : Fr (fun k => k = w.heap.size) w1 (w1.setCell ⟨w.heap.size, g, none⟩ (.int .i64 ((tallyTo s u j g : Int) + 1))) := (Fr.refl (fun k => k = w.heap.size) w1).setCell (p := ⟨w.heap.size, g, none⟩) (.inr rfl) _
  refine ⟨?_, ?_, ?_, by rw [e1]; simp⟩
  · rw [e1]
    have := own_fr hown f2 (fun k hk e => by have := own_ge hown hk; omega)
    simpa using this
  · refine ((h.row.fr f hv).set hg3 _).congr (fun i _ => ?_)
    unfold updN
    rw [e2, hg]
    by_cases e : i = g
    · subst e; simp
    · rw [if_neg e, if_neg (by omega)]; simp
  · refine (h.fr.trans' f (fun k hk e => ?_)).trans' f2 (fun k hk e => by omega)
    have := own_ge h.own e; omega

set_option maxHeartbeats 1000000 in
theorem holding_any (gb t0 g0 x0 p0 : Nat) (s : St) (B : Int) (u : Word) (w : World) (h : GhostAt w gb t0 g0 x0 p0 s) (hf : Fine s B) (hu : u.length ≤ 1000) : Calls Try.prog 45 #[.pointer (some ⟨gb, 0, none⟩), .string (str u)] w (HoldPost w s u) := by
  have HG : Hid (∀ wr, Fr No w wr → GhostAt wr gb t0 g0 x0 p0 s) := fun wr f => GhostR.fr h f (fun _ _ h => h)
  have HF : Hid (Fine s B) := hf
  have HL : Hid (gb < w.heap.size ∧ t0 < w.heap.size ∧ g0 < w.heap.size ∧ x0 < w.heap.size) := ⟨GhostR.lt h gb (.inl rfl), GhostR.lt h t0 (.inr (.inl rfl)), GhostR.lt h g0 (.inr (.inr (.inl rfl))), GhostR.lt h x0 (.inr (.inr (.inr (.inl rfl))))⟩
  have HI : Hid (HoldI w s u 1 (.slice none 0 0) (w.alloc (.cells (zeros 3) 3))) := by
    refine ⟨own_nil _ _ _ _, ⟨zeros 3, 3, heap_alloc_new _ _, rfl, fun i hi => ?_⟩, (Fr.refl _ _).alloc _, fun _ => rfl⟩
    rcases i with _ | _ | _ | i <;> first | rfl | omega
  have HS : Hid (∀ (t : Word) (w' : World), t.length ≤ 1000 → Calls Try.prog 73 #[.string (str t), .string (str u)] w' fun e w'' => e = .returned (.bool (standsB t u)) ∧ w'' = w') := fun t w' ht => stands_any t u w' ht hu
  have hmk := mk3
  clear h hf
  go_enter Try.func45, Try.ntmps45
  go_wp2
  go_loopw [6, 8] (fun v i wr => ∃ j : Nat, (1 ≤ j ∧ j ≤ 10) ∧ i = .int .i64 j ∧ HoldI w s u j v wr) (fun _ i _ => 10 - (intOf i).toNat)
  case atStart => exact ⟨1, by omega, rfl, HI.out⟩
  case round =>
    obtain ⟨j, hj, rfl, hI⟩ := hrel
    have hwr := hI.fr.size
    obtain ⟨l1, l2, l3, l4⟩ := HL.out
    have hgw : gb < wr.heap.size := by omega
    have hG := HG.out wr hI.fr
    obtain ⟨c0, c1, c2, c3, c4⟩ := GhostR.cells hG
    by_cases hlt : j ≤ 9
    · have ct := hG.there.cell (i := j) (by omega)
      have cg := hG.group.cell (i := j) (by omega)
      have cx := hG.text.cell (i := j) (by omega)
      unfold gT at ct
      unfold gG at cg
      unfold gX at cx
      have hl9 : (j : Int) ≤ 9 := by omega
      have hj1 : 1 ≤ j := hj.1
      cases hd : s.docs (j : Int) with
      | none =>
        rw [hd] at ct
        simp only [Option.isSome_none] at ct
        have HK : Hid (HoldI w s u (j + 1) u6 wr) := hI.no hj.1 (hasOf_none hd u) (Fr.refl _ _)
        clear hI hG hd
        go_wp2
        go_roundw
        case rel => exact ⟨j + 1, by omega, by go_num, HK.out⟩
        case measure => simp [intOf]; omega
      | some d =>
        rw [hd] at ct
        simp only [Option.isSome_some] at ct
        have hdm := HF.out.dom _ d hd
        rw [groupOf_some hd] at cg
        rw [textOf_some hd] at cx
        have HSS : Hid (∀ w', Calls Try.prog 73 #[.string (str d.text), .string (str u)] w' fun e w'' => e = .returned (.bool (standsB d.text u)) ∧ w'' = w') := fun w' => HS.out d.text w' (by omega)
        have hhas : hasOf s u (j : Int) = standsB d.text u := hasOf_some hd u
        cases hst : standsB d.text u with
        | false =>
          rw [hst] at hhas HSS
          have HK : Hid (HoldI w s u (j + 1) u6 wr) := hI.no hj.1 hhas (Fr.refl _ _)
          clear hI hG hd hst hhas hdm
          go_wp2_with (go_at_call 73; refine (HSS.out _).mono ?_; rintro e w1 ⟨rfl, hw⟩; have hw := hw.symm; subst hw)
          go_roundw
          case rel => exact ⟨j + 1, by omega, by go_num, HK.out⟩
          case measure => simp [intOf]; omega
        | true =>
          rw [hst] at hhas HSS
          obtain ⟨g, hg⟩ : ∃ g : Nat, d.group = (g : Int) := ⟨d.group.toNat, by omega⟩
          have hg3 : g < 3 := by omega
          rw [hg] at cg
          have HY : Hid (∀ v' w1, w1.ownsRow (w.heap.size + 1) 3 1 v' ((holdTo s u j).length + 1) ((holdTo s u j).map (Value.int .i64) ++ [.int .i64 (j : Int)]) → Fr (fun k => u6.ownBlock = some k) wr w1 → HoldI w s u (j + 1) v' (w1.setCell ⟨w.heap.size, g, none⟩ (.int .i64 ((tallyTo s u j g : Int) + 1)))) := fun v' w1 h1 h2 => hI.yes hj.1 hhas (by rw [groupOf_some hd, hg]) hg3 h1 h2
          have HII : Hid (HoldI w s u j u6 wr) := hI
          have hm9 := holdTo_len s u j hj.2
          have ht9 := tallyTo_le s u j g hj.2
          obtain ⟨i0, hi, hz0, hz1, hz2⟩ := info_parts info3
          have hown := hI.own
          clear hI hG hd hst hhas hdm hg
          generalize hm : (holdTo s u j).length = m at *
          go_wp2_with first
            | (go_at_call 73; refine (HSS.out _).mono ?_; rintro e w1 ⟨rfl, hw⟩; have hw := hw.symm; subst hw)
            | (at_builtin; refine wpList_append_own_at _ rfl _ _ 47 rfl (w.heap.size + 1) 3 i0 (.int .i64 0) 1 8 Try.underlying47 hi hz0 hz1 hz2 rfl (by decide) u6 m _ rfl (hown.alloc _) ⟨wr.heap.size, 0, none⟩ 1 1 [.int .i64 (j : Int)] rfl rfl (cell_one_new _ _ _) (by intro u hu; simp only [List.mem_singleton] at hu; subst hu; rfl) (by unfold maxLen; omega) (by omega) (by simp; omega) ?_
               intro v' w1 hown' hgrow hnil' hloc
               have hfr1 : Fr (fun k => u6.ownBlock = some k) wr w1 := ((Fr.refl _ _).alloc _).grown hgrow (fun k hk => .inr hk)
               have hs1 := hfr1.size
               have hgw1 : gb < w1.heap.size := by omega
               have hnew : ∀ k, k < w.heap.size + 1 → ¬ u6.ownBlock = some k := fun k hk e => by have := own_ge HII.out.own e; omega
               have d1 := hfr1.cell c1 (hnew gb (by omega))
               have dg := hfr1.cell cg (hnew g0 (by omega))
               have hrow := HII.out.row.fr hfr1 (hnew w.heap.size (by omega))
               have dr := hrow.cell hg3
               have dz := hrow.frozen
               have hww := hrow.lt
               have hwt : IntKind.i64.wrap ((tallyTo s u j g : Int) + 1) = (tallyTo s u j g : Int) + 1 := wrap_i64 _ (by omega) (by omega)
               have HK : Hid (HoldI w s u (j + 1) v' (w1.setCell ⟨w.heap.size, g, none⟩ (.int .i64 ((tallyTo s u j g : Int) + 1)))) := HY.out v' w1 hown' hfr1
               clear hrow hnew hfr1 hgrow hown' hnil' hloc)
          go_roundw
          case rel => exact ⟨j + 1, by omega, by go_num, HK.out⟩
          case measure => simp [intOf]; omega
    · have hj10 : j = 10 := by omega
      subst hj10
      have HE : Hid (HoldPost w s u (.returned (.tuple #[u6, .slice (some ⟨w.heap.size, 0, none⟩) 3 3])) wr) := by
        refine ⟨u6, w.heap.size, rfl, ?_, ?_, rfl, hI.fr⟩
        · rw [← holdTo_ten]; exact hI.own
        · exact hI.row.congr (fun i _ => by rw [tallyTo_ten])
      clear hI hG
      go_wp2
      refine bodyPost_ret (v := .tuple #[u6, .slice (some ⟨w.heap.size, 0, none⟩) 3 3]) (by simp [results, Try.results45, go_sem]) rfl HE.out
end Go.Proofs.Qxb6500357a
