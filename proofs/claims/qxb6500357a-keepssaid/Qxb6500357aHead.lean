import Derived.Test.Qxb6500357aHold
import Derived.Test.Qxb6500357aInto
namespace Go.Tag
set_option linter.unusedVariables false
set_option linter.unusedSimpArgs false
def thereTo (s : St) (j : Nat) : List Int := (idsTo j).filter fun i => (s.docs i).isSome
def cntTo (s : St) (j g : Nat) : Nat := ((idsTo j).filter (s.inG (g : Int))).length
theorem thereTo_no (s : St) (j : Nat) (hj : 1 ≤ j) (h : s.docs (j : Int) = none) : thereTo s (j + 1) = thereTo s j ∧ ∀ g, cntTo s (j + 1) g = cntTo s j g := by
  unfold thereTo cntTo
  rw [idsTo_succ j hj]
  simp [List.filter_append, h, inG_none h]
theorem thereTo_yes (s : St) (j : Nat) (hj : 1 ≤ j) {d : Doc} (h : s.docs (j : Int) = some d) : thereTo s (j + 1) = thereTo s j ++ [(j : Int)] ∧ ∀ g : Nat, cntTo s (j + 1) g = cntTo s j g + (if d.group = (g : Int) then 1 else 0) := by
  unfold thereTo cntTo
  rw [idsTo_succ j hj]
  refine ⟨by simp [List.filter_append, h], fun g => ?_⟩
  rw [List.filter_append, List.length_append]
  congr 1
  by_cases e : d.group = (g : Int) <;> simp [inG_some h, e]
theorem thereTo_len (s : St) (j : Nat) (h : j ≤ 10) : (thereTo s j).length ≤ 9 := by
  have := List.length_filter_le (fun i => (s.docs i).isSome) (idsTo j)
  unfold thereTo
  have : (idsTo j).length = j - 1 := by simp [idsTo]
  omega
theorem cntTo_le (s : St) (j g : Nat) (h : j ≤ 10) : cntTo s j g ≤ 9 := by
  unfold cntTo
  have := List.length_filter_le (s.inG (g : Int)) (idsTo j)
  have : (idsTo j).length = j - 1 := by simp [idsTo]
  omega
theorem thereTo_ten (s : St) : thereTo s 10 = s.ids := by unfold thereTo St.ids; rw [idsTo_ten]
theorem cntTo_ten (s : St) (g : Nat) : cntTo s 10 g = s.cnt (g : Int) := by unfold cntTo; rw [cnt_eq, idsTo_ten]
end Go.Tag
namespace Go.Proofs.Qxb6500357a
open Go.RowKit Go.Tag
set_option linter.unusedVariables false
set_option linter.unusedSimpArgs false
set_option maxRecDepth 100000
attribute [local simp] str_size
attribute [local go_sem] str_size

structure HeadI (w : World) (s : St) (j : Nat) (t : Value) (wr : World) : Prop where
  t : t = .string (str (docsStr s (thereTo s j)))
  row : RowK wr w.heap.size 3 (fun g => .int .i64 (cntTo s j g : Nat))
  fr : Fr No w wr
theorem HeadI.no {w : World} {s : St} {j : Nat} {t : Value} {wr : World} (h : HeadI w s j t wr) (hj : 1 ≤ j) (hd : s.docs (j : Int) = none) : HeadI w s (j + 1) t wr := by
  obtain ⟨e1, e2⟩ := thereTo_no s j hj hd
  exact ⟨by rw [e1]; exact h.t, h.row.congr (fun i _ => by rw [e2]), h.fr⟩
theorem HeadI.yes {w : World} {s : St} {j : Nat} {t t' : Value} {wr w1 : World} {g : Nat} {d : Doc} (h : HeadI w s j t wr) (hj : 1 ≤ j) (hd : s.docs (j : Int) = some d) (hg : d.group = (g : Int)) (hg3 : g < 3) (f : Fr No wr w1) (ht : t' = .string (str (docsStr s (thereTo s j) ++ docStr s (j : Int)))) :
    HeadI w s (j + 1) t' (w1.setCell ⟨w.heap.size, g, none⟩ (.int .i64 ((cntTo s j g : Int) + 1))) := by
  obtain ⟨e1, e2⟩ := thereTo_yes s j hj hd
  refine ⟨by rw [e1, docsStr_snoc]; exact ht, ?_, ?_⟩
  · refine ((h.row.fr f (fun h => h)).set hg3 _).congr (fun i _ => ?_)
    unfold updN
    rw [e2, hg]
    by_cases e : i = g
    · subst e; simp
    · rw [if_neg e, if_neg (by omega)]; simp
  · exact (h.fr.trans f).setCell (p := ⟨w.heap.size, g, none⟩) (.inl (Nat.le_refl _)) _

set_option maxHeartbeats 1000000 in
theorem head_any (gb t0 g0 x0 p0 : Nat) (s : St) (B : Int) (w : World) (h : GhostAt w gb t0 g0 x0 p0 s) (hf : Fine s B) (hB : B < 1000000000000000000) : Calls Try.prog 44 #[.pointer (some ⟨gb, 0, none⟩)] w (StrPost w (s.show ++ [35])) := by
  have HG : Hid (∀ wr, Fr No w wr → GhostAt wr gb t0 g0 x0 p0 s) := fun wr f => GhostR.fr h f (fun _ _ h => h)
  have HF : Hid (Fine s B ∧ B < 1000000000000000000) := ⟨hf, hB⟩
  have HL : Hid (gb < w.heap.size ∧ t0 < w.heap.size ∧ g0 < w.heap.size ∧ x0 < w.heap.size ∧ p0 < w.heap.size) := ⟨GhostR.lt h gb (.inl rfl), GhostR.lt h t0 (.inr (.inl rfl)), GhostR.lt h g0 (.inr (.inr (.inl rfl))), GhostR.lt h x0 (.inr (.inr (.inr (.inl rfl)))), GhostR.lt h p0 (.inr (.inr (.inr (.inr rfl))))⟩
  have HI : Hid (HeadI w s 1 (.string (str [])) (w.alloc (.cells (zeros 3) 3))) := by
    refine ⟨rfl, ⟨zeros 3, 3, heap_alloc_new _ _, rfl, fun i hi => ?_⟩, (Fr.refl _ _).alloc _⟩
    rcases i with _ | _ | _ | i <;> first | rfl | omega
  have hmk := mk3
  clear h hf hB
  go_enter Try.func44, Try.ntmps44
  go_wp2
  go_loopw [3, 5] (fun t i wr => ∃ j : Nat, (1 ≤ j ∧ j ≤ 10) ∧ i = .int .i64 j ∧ HeadI w s j t wr) (fun _ i _ => 10 - (intOf i).toNat)
  case atStart => exact ⟨1, by omega, rfl, HI.out⟩
  case round =>
    obtain ⟨j, hj, rfl, hI⟩ := hrel
    have hwr := hI.fr.size
    obtain ⟨l1, l2, l3, l4, l5⟩ := HL.out
    have hgw : gb < wr.heap.size := by omega
    have hG := HG.out wr hI.fr
    obtain ⟨c0, c1, c2, c3, c4⟩ := GhostR.cells hG
    have hdl : (docsStr s (thereTo s j)).length ≤ 540 := by
      have h1 := docsStr_len HF.out.1 (thereTo s j); have h2 := thereTo_len s j hj.2; omega
    by_cases hlt : j ≤ 9
    · have ct := hG.there.cell (i := j) (by omega)
      have cg := hG.group.cell (i := j) (by omega)
      have cx := hG.text.cell (i := j) (by omega)
      unfold gT at ct
      unfold gG at cg
      unfold gX at cx
      have hl9 : (j : Int) ≤ 9 := by omega
      have hj1 : 1 ≤ j := hj.1
      cases hd : s.docs (j : Int) with
      | none =>
        rw [hd] at ct
        simp only [Option.isSome_none] at ct
        have HK : Hid (HeadI w s (j + 1) u3 wr) := hI.no hj.1 hd
        clear hI hG hd
        go_wp2
        go_roundw
        case rel => exact ⟨j + 1, by omega, by go_num, HK.out⟩
        case measure => simp [intOf]; omega
      | some d =>
        rw [hd] at ct
        simp only [Option.isSome_some] at ct
        have hdm := HF.out.1.dom _ d hd
        rw [groupOf_some hd] at cg
        rw [textOf_some hd] at cx
        obtain ⟨g, hg⟩ : ∃ g : Nat, d.group = (g : Int) := ⟨d.group.toNat, by omega⟩
        have hg3 : g < 3 := by omega
        rw [hg] at cg
        have HDS : Hid (docsStr s (thereTo s j) ++ docStr s (j : Int) = docsStr s (thereTo s j) ++ itoa (j : Int).toNat ++ [47] ++ itoa (g : Int).toNat ++ [47] ++ d.text ++ [59]) := by
          rw [Hid, docStr, groupOf_some hd, textOf_some hd, hg]; simp
        have HY : Hid (∀ t' w1, t' = .string (str (docsStr s (thereTo s j) ++ docStr s (j : Int))) → Fr No wr w1 → HeadI w s (j + 1) t' (w1.setCell ⟨w.heap.size, g, none⟩ (.int .i64 ((cntTo s j g : Int) + 1)))) := fun t' w1 h1 h2 => hI.yes hj.1 hd hg hg3 h2 h1
        have ht9 := cntTo_le s j g hj.2
        have hwt : IntKind.i64.wrap ((cntTo s j g : Int) + 1) = (cntTo s j g : Int) + 1 := wrap_i64 _ (by omega) (by omega)
        have cr := hI.row.cell hg3
        have HFZ : Hid (RowK wr w.heap.size 3 (fun g => .int .i64 (cntTo s j g : Nat))) := hI.row
        have hww := hI.row.lt
        have b1 := itoa_len (j : Int).toNat
        have b2 := itoa_len (g : Int).toNat
        have ht := hI.t
        subst ht
        have HA : Hid (∀ w', Calls Try.prog 72 #[.int .i64 (j : Int)] w' fun e w'' => e = .returned (.string (str (itoa (j : Int).toNat))) ∧ Fr No w' w'') := fun w' => itoa_any _ (by omega) (by omega) w'
        have HB2 : Hid (∀ w', Calls Try.prog 72 #[.int .i64 (g : Int)] w' fun e w'' => e = .returned (.string (str (itoa (g : Int).toNat))) ∧ Fr No w' w'') := fun w' => itoa_any _ (by omega) (by omega) w'
        have htx : d.text.length ≤ 12 := hdm.2.2.1
        generalize d.text = tx at *
        clear hI hG hd hdm hg
        generalize docsStr s (thereTo s j) = T0 at *
        generalize itoa (j : Int).toNat = I1 at *
        generalize itoa (g : Int).toNat = I2 at *
        go_wp2_with (go_at_call 72
                     first
                       | (refine (HB2.out w1).mono ?_
                          rintro e w2 ⟨rfl, f2⟩
                          have f02 : Fr No wr w2 := f1.trans f2
                          have hg2 : gb < w2.heap.size := Nat.lt_of_lt_of_le hgw f02.size
                          have k1 := f02.cell c1 (fun h => h)
                          have k2 := f02.cell c2 (fun h => h)
                          have kg := f02.cell cg (fun h => h)
                          have kx := f02.cell cx (fun h => h)
                          have kr := f02.cell cr (fun h => h)
                          have hrow := HFZ.out.fr f02 (fun h => h)
                          have kz := hrow.frozen
                          have kw := hrow.lt
                          have F02 : Hid (Fr No wr w2) := f02
                          clear hrow f02)
                       | (refine (HA.out wr).mono ?_
                          rintro e w1 ⟨rfl, f1⟩
                          have m1 := f1.cell c1 (fun h => h)
                          have mg := f1.cell cg (fun h => h)
                          have hg1 : gb < w1.heap.size := Nat.lt_of_lt_of_le hgw f1.size))
        go_roundw
        case rel => exact ⟨j + 1, by omega, by go_num, HY.out _ _ (by rw [HDS.out]; simp only [← str_append]; rfl) F02.out⟩
        case measure => simp [intOf]; omega
    · have hj10 : j = 10 := by omega
      subst hj10
      have ht := hI.t
      rw [thereTo_ten] at ht hdl
      subst ht
      have hsl : ∀ wx, (Instr.slice 47 (.slice (some ⟨p0, 0, none⟩) 10 10) (some (.int .i64 1)) none none).run Try.prog wx = .ok (.slice (some ⟨p0, 1, none⟩) 9 9) wx := fun wx => by kernel_rfl
      have HP : Hid (Calls Try.prog 46 #[.slice (some ⟨p0, 1, none⟩) 9 9] wr fun e w' => e = .returned (.string (str (ints s.revL))) ∧ Fr No wr w') := by
        refine ints_any _ s.revL wr ⟨some ⟨p0, 1, none⟩, 9, by simp [St.revL, idsAll], fun k u hk => ⟨p0, 1, rfl, ?_⟩⟩ (fun n hn => by have := revL_mem HF.out.1 n hn; have := HF.out.2; omega) (by simp [St.revL, idsAll])
        have hk9 : k < 9 := by have := (List.getElem?_eq_some_iff.1 hk).1; simp [St.revL, idsAll] at this; omega
        rw [List.getElem?_map, revL_get s k hk9] at hk
        simp only [Option.map_some, Option.some.injEq] at hk
        subst hk
        have := hG.puts.cell (i := 1 + k) (by omega)
        unfold gP at this
        rw [this, show ((1 + k : Nat) : Int) = (k : Int) + 1 by omega]
      have HC : Hid (∀ w', Fr No wr w' → Calls Try.prog 46 #[.slice (some ⟨w.heap.size, 0, none⟩) 3 3] w' fun e w'' => e = .returned (.string (str (ints s.grpL))) ∧ Fr No w' w'') := fun w' f => by
        refine ints_any _ s.grpL w' ((hI.row.fr f (fun h => h)).sl (by simp [St.grpL]) (fun i hi => ?_)) (fun n hn => by have := grpL_mem s n hn; omega) (by simp [St.grpL])
        rw [List.getElem?_map, grpL_get s i hi, cntTo_ten]; rfl
      have HFw : Hid (Fr No w wr) := hI.fr
      have e1 : (ints s.revL).length ≤ 189 := by have := ints_len s.revL; simp [St.revL, idsAll] at this ⊢; omega
      have e2 : (ints s.grpL).length ≤ 63 := by have := ints_len s.grpL; simp [St.grpL] at this ⊢; omega
      have HS : Hid (s.show ++ [35] = docsStr s s.ids ++ [124] ++ ints s.revL ++ [124] ++ ints s.grpL ++ [35]) := rfl
      clear hI hG
      generalize docsStr s s.ids = T0 at *
      generalize ints s.revL = T1 at *
      generalize ints s.grpL = T2 at *
      go_wp2_with (go_at_call 46
                   first
                     | (refine (HC.out w1 f1).mono ?_
                        rintro e w2 ⟨rfl, f2⟩)
                     | (refine HP.out.mono ?_
                        rintro e w1 ⟨rfl, f1⟩))
      go_ret
      exact ⟨by rw [HS.out]; simp only [← str_append]; rfl, (HFw.out.trans f1).trans f2⟩
end Go.Proofs.Qxb6500357a
