import Derived.Test.Qxb6500357aGreatFind
namespace Go.Proofs.Qxb6500357aGreat
open Go.RowKit Go.Tag
variable {st0 : Nat}
set_option linter.unusedVariables false
set_option linter.unusedSimpArgs false
set_option maxRecDepth 100000
attribute [local simp] str_size
attribute [local go_sem] str_size

theorem info90 : (Tryz.prog.info? 101).map (fun i => (i.zero, i.size, i.bytes)) = some (some (.agg #[.int .i64 0, .int .i64 0]), 2, 16) := by kernel_rfl
def cells2 (l : List (Int × Int)) : List Value := l.flatMap fun p => [.int .i64 p.1, .int .i64 p.2]
/-- A fresh list of counts and an Errno. -/
def CountsErr (w : World) (L : List (Int × Int)) (er : Int) (e : Ending) (w' : World) : Prop :=
  ∃ v, e = .returned (.tuple #[v, .int .i64 er]) ∧ w'.ownsRow w.heap.size 101 2 v L.length (cells2 L) ∧ Fr No w w' ∧ (L = [] → v = .slice none 0 0)

def tally (s : St) (u : Word) (g : Int) : Nat := cntBy (hasOf s) s.groupOf (g, u)
def groupsTo (s : St) (u : Word) (j : Nat) : List (Int × Int) := (([0, 1, 2] : List Int).take j).filterMap fun g => if tally s u g = 0 then none else some (g, (tally s u g : Int))
def groupsErr (u : Word) : Int := if 12 < u.length then 1 else 0
def groupsL (s : St) (u : Word) : List (Int × Int) := if 12 < u.length then [] else groupsTo s u 3

theorem groupsTo_succ (s : St) (u : Word) (j : Nat) (h : j < 3) : groupsTo s u (j + 1) = groupsTo s u j ++ (if tally s u (j : Int) = 0 then [] else [((j : Int), (tally s u (j : Int) : Int))]) := by
  unfold groupsTo
  rcases j with _ | _ | _ | j
  · simp only [List.take_succ_cons, List.take_zero, List.filterMap_cons, List.filterMap_nil]; by_cases h : tally s u 0 = 0 <;> simp [h]
  · simp only [List.take_succ_cons, List.take_zero, List.filterMap_cons, List.filterMap_nil]; by_cases h : tally s u 0 = 0 <;> by_cases h1 : tally s u 1 = 0 <;> simp [h, h1]
  · simp only [List.take_succ_cons, List.take_zero, List.filterMap_cons, List.filterMap_nil]; by_cases h : tally s u 0 = 0 <;> by_cases h1 : tally s u 1 = 0 <;> by_cases h2 : tally s u 2 = 0 <;> simp [h, h1, h2]
  · omega
theorem groupsTo_len (s : St) (u : Word) (j : Nat) : (groupsTo s u j).length ≤ 3 := by
  unfold groupsTo
  refine Nat.le_trans (List.length_filterMap_le _ _) ?_
  simp; omega
theorem groupsTo_mem (s : St) (u : Word) (j : Nat) : ∀ p ∈ groupsTo s u j, (0 ≤ p.1 ∧ p.1 ≤ 2) ∧ (1 ≤ p.2 ∧ p.2 ≤ 9) := by
  intro p hp
  unfold groupsTo at hp
  obtain ⟨g, hg, he⟩ := List.mem_filterMap.1 hp
  have hg' := List.mem_of_mem_take hg
  have := cntBy_le (hasOf s) s.groupOf (g, u)
  unfold tally at he
  split at he
  · cases he
  · cases he
    simp only [List.mem_cons, List.not_mem_nil, or_false] at hg'
    refine ⟨by simp only []; omega, by simp only []; omega⟩

/-- How many of the first j of ks are of group g. -/
def cntG (s : St) (ks : List Int) (j : Nat) (g : Int) : Int := (((ks.take j).filter fun i => decide (s.groupOf i = g)).length : Int)
theorem cntG_succ (s : St) (ks : List Int) (j : Nat) (h : j < ks.length) : fNum (cntG s ks (j + 1)) = upd (fNum (cntG s ks j)) (s.groupOf ks[j]) (some (.int .i64 (cntG s ks j (s.groupOf ks[j]) + 1))) := by
  funext g
  unfold fNum upd cntG
  rw [take_snoc ks j h, List.filter_append, List.length_append]
  by_cases hg : g = s.groupOf ks[j]
  · subst hg; simp; omega
  · simp [hg, Ne.symm hg]
theorem cntG_le (s : St) (ks : List Int) (j : Nat) (g : Int) : 0 ≤ cntG s ks j g ∧ cntG s ks j g ≤ ks.length := by
  have h1 := List.length_filter_le (fun i => decide (s.groupOf i = g)) (ks.take j)
  have h2 : (ks.take j).length ≤ ks.length := by simp; omega
  unfold cntG; omega
theorem cntG_all (s : St) (u : Word) (g : Int) : cntG s (s.holders u) (s.holders u).length g = (tally s u g : Int) := by
  unfold cntG tally cntBy St.holders
  rw [List.take_length, List.filter_filter]
  congr 2
  exact List.filter_congr fun i _ => by rw [Bool.and_comm]

theorem cell_two_new (w : World) (p q : Value) (t : TypeId) : ∀ j u, [p, q][j]? = some u → (w.alloc (.cells #[p, q] t)).cell? ((⟨w.heap.size, 0, none⟩ : Addr).add j) = some u := by
  intro j u hj
  match j, hj with
  | 0, hj => simp at hj; subst hj; simp [Addr.add]
  | 1, hj => simp at hj; subst hj; simp [Addr.add]

section
variable (y x : Nat) (F : Nat → Prop) (s : St) (B : Int) (u : Word) (w : World)

/-- Loop 2's state. -/
def GrpI (w : World) (s : St) (u : Word) (w3 : World) (j : Nat) (v : Value) (wr : World) : Prop :=
  wr.ownsRow w3.heap.size 101 2 v (groupsTo s u j).length (cells2 (groupsTo s u j)) ∧ Fr No w3 wr ∧ (groupsTo s u j = [] → v = .slice none 0 0)

set_option maxHeartbeats 1000000 in
theorem groups_any (h : QAt st0 w F y x s) (hf : Fine s B) : Calls Tryz.prog 26 #[.pointer (some ⟨y, 0, none⟩), .string (str u)] w (CountsErr w (groupsL s u) (groupsErr u)) := by
  by_cases hu : 12 < u.length
  · have HE : Hid (CountsErr w (groupsL s u) (groupsErr u) (.returned (.tuple #[.slice none 0 0, .int .i64 1])) w) := by
      unfold groupsL groupsErr; rw [if_pos hu, if_pos hu]
      exact ⟨_, rfl, own_nil _ _ _ _, Fr.refl _ _, fun _ => rfl⟩
    have hd : decide ((12 : Int) < (u.length : Int)) = true := by simp; omega
    go_enter Tryz.func26, Tryz.ntmps26
    go_wp2
    refine bodyPost_ret (v := .tuple #[.slice none 0 0, .int .i64 1]) (by simp [results, Tryz.results26, go_sem]) rfl HE.out
  · have HL : Hid (groupsL s u = groupsTo s u 3 ∧ groupsErr u = 0) := by
      unfold groupsL groupsErr; rw [if_neg hu, if_neg hu]; exact ⟨rfl, rfl⟩
    have hd : decide ((12 : Int) < (u.length : Int)) = false := by simp; omega
    have hmm := @run_makeMap Tryz.prog
    have hr0 : w.cell? ⟨y, 0, none⟩ = some (.pointer (some ⟨x, 0, none⟩)) := by rw [cell_of_heap h.1]; rfl
    have hyw := lt_of_heap h.1
    have HB : Hid (∀ w', Fr No w w' → Both st0 w' F x s) := fun w' f => h.2.frNo f
    have HFn : Hid (Fine s B) := hf
    have HD : Hid (Calls Tryz.prog 45 #[.pointer (some ⟨x, 0, none⟩), .string (str u)] (w.alloc (.map #[] 0)) (IntsPost (w.alloc (.map #[] 0)) (s.holders u))) := docs_any x F s B u _ (h.2.frNo ((Fr.refl _ _).alloc _)) hf
    have HA : Hid (∀ g, cntG s (s.holders u) (s.holders u).length g = (tally s u g : Int)) := cntG_all s u
    have hN : (s.holders u).length ≤ 9 := List.length_filter_le _ idsAll
    have HM0 : Hid (MapFn (w.alloc (.map #[] 0)) w.heap.size kInt (fNum (cntG s (s.holders u) 0))) := (mapFn_new w).congr (fun k => by simp [fNum, cntG])
    generalize s.holders u = ks at *
    obtain ⟨n, hn⟩ : ∃ n, ks.length = n := ⟨_, rfl⟩
    have HN : Hid (ks.length = n) := hn
    rw [hn] at hN HA
    clear hn h hf
    go_enter Tryz.func26, Tryz.ntmps26
    go_wp2_with (go_at_call 45; refine HD.out.mono ?_
                 rintro e w1 ⟨v, rfl, hown, f1, -⟩
                 obtain ⟨ao, cap, rfl, hcl⟩ := own_sl hown
                 simp only [List.length_map, HN.out])
    have HM1 : Hid (MapFn w1 w.heap.size kInt (fNum (cntG s ks 0)) ∧ Fr No w w1) := ⟨HM0.out.fr f1 (fun h => h), ((Fr.refl No w).alloc _).trans f1⟩
    have hw1 : w.heap.size < w1.heap.size := by have := f1.size; simp only [World.size_alloc] at this; omega
    have hcl' : ∀ (j : Nat) (v : Value), (ks.map (Value.int .i64))[j]? = some v → ∃ g o, ao = some ⟨g, o, none⟩ ∧ w1.cell? ⟨g, o + j, none⟩ = some v ∧ g ≠ w.heap.size := by
      intro j v hj
      obtain ⟨g, o, h1, h2⟩ := hcl j v hj
      subst h1
      refine ⟨g, o, rfl, h2, ?_⟩
      have := own_ge hown (k := g) rfl
      simp only [World.size_alloc] at this; omega
    clear hown f1 hcl
    go_loopw [26] (fun i wr => ∃ j : Nat, j ≤ n ∧ i = .int .i64 j ∧ MapFn wr w.heap.size kInt (fNum (cntG s ks j)) ∧ Fr (fun k => k = w.heap.size) w1 wr) (fun i _ => n - (intOf i).toNat)
    case atStart => exact ⟨0, Nat.zero_le _, rfl, HM1.out.1, Fr.refl _ _⟩
    case round =>
      obtain ⟨j, hj, rfl, hM, hF⟩ := hrel
      have hFw : Fr No w wr := HM1.out.2.trans' hF (fun i hi e => by omega)
      by_cases hlt : j < n
      · have hjl : j < ks.length := by rw [HN.out]; exact hlt
        obtain ⟨g, off, rfl, hc0, hgn⟩ := hcl' j (.int .i64 ks[j]) (by simp [hjl])
        have hc0 := hF.cell hc0 hgn
        have HG : Hid (Calls Tryz.prog 58 #[.pointer (some ⟨x, 0, none⟩), .int .i64 ks[j]] wr fun e w' => e = .returned (.tuple #[.int .i64 (s.groupOf ks[j]), .int .i64 (s.getErr ks[j])]) ∧ Fr No wr w') := group_any x F s B wr ks[j] (HB.out wr hFw) HFn.out
        have hry := frNo_cell hFw hr0
        have HK : Hid (fNum (cntG s ks (j + 1)) = upd (fNum (cntG s ks j)) (s.groupOf ks[j]) (some (.int .i64 (cntG s ks j (s.groupOf ks[j]) + 1)))) := cntG_succ s ks j hjl
        have hcg := cntG_le s ks j (s.groupOf ks[j])
        rw [HN.out] at hcg
        obtain ⟨hcg1, hcg2⟩ := hcg
        have HM : Hid (MapFn wr w.heap.size kInt (fNum (cntG s ks j)) ∧ Fr (fun k => k = w.heap.size) w1 wr) := ⟨hM, hF⟩
        generalize s.getErr ks[j] = er at *
        generalize ks[j] = kk at *
        clear hcl' hM hF hFw hjl
        go_wp2_with (go_at_call 58; refine HG.out.mono ?_
                     rintro e w2 ⟨rfl, f2⟩
                     have hM2 := HM.out.1.fr f2 (fun h => h)
                     have hl2 := hM2.lookup_v (P := Tryz.prog) (t := 83) keyInt Tryz.underlying83 (zero3 _) (s.groupOf kk)
                     rw [fNum_getD] at hl2
                     obtain ⟨w3, hu3, hM3, ht3⟩ := hM2.update' (P := Tryz.prog) (t := 83) keyInt Tryz.underlying83 (s.groupOf kk) (.int .i64 (cntG s ks j (s.groupOf kk) + 1))
                     simp only [kInt] at hu3 hl2
                     have HZ : Hid (MapFn w3 w.heap.size kInt (fNum (cntG s ks (j + 1))) ∧ Fr (fun k => k = w.heap.size) w1 w3) := ⟨by rw [HK.out]; exact hM3, (HM.out.2.trans f2.any).trans ht3.fr⟩
                     clear hM2 hM3 ht3 f2)
        go_roundw
        case rel => exact ⟨j + 1, by omega, by go_num, HZ.out.1, HZ.out.2⟩
        case measure => simp [intOf]; omega
      · have HT : Hid (MapFn wr w.heap.size kInt (fNum fun g => (tally s u g : Int)) ∧ Fr No w wr) := by
          have e : j = n := by omega
          refine ⟨?_, hFw⟩
          have e2 : cntG s ks j = fun g => (tally s u g : Int) := by funext g; rw [e]; exact HA.out g
          rw [← e2]; exact hM
        have HP0 : Hid (GrpI w s u wr 0 (.slice none 0 0) wr) := ⟨own_nil _ _ _ _, Fr.refl _ _, fun _ => rfl⟩
        clear hcl' hM hF hFw
        obtain ⟨wb, hwb⟩ : ∃ wb, wb = wr := ⟨_, rfl⟩
        go_wp2
        subst hwb
        go_loopw [11, 44] (fun v i wr' => ∃ k : Nat, k ≤ 3 ∧ i = .int .i64 k ∧ GrpI w s u wb k v wr') (fun _ i _ => 3 - (intOf i).toNat)
        case atStart => exact ⟨0, by omega, rfl, HP0.out⟩
        case round =>
          obtain ⟨k, hk, rfl, hI⟩ := hrel
          by_cases hlt3 : k < 3
          · have hM := HT.out.1.fr hI.2.1 (fun h => h)
            have hl := hM.lookup_ok (P := Tryz.prog) (t := 83) keyInt Tryz.underlying83 (zero3 _) (k : Int)
            have hsucc := groupsTo_succ s u k hlt3
            have hgl := groupsTo_len s u k
            have htl := cntBy_le (hasOf s) s.groupOf ((k : Int), u)
            by_cases h0 : tally s u (k : Int) = 0
            · have hl : (Instr.lookup 83 (.map (some w.heap.size)) (.int .i64 (k : Int)) true).run Tryz.prog wr = .ok (.tuple #[.int .i64 0, .bool false]) wr := by
                simp only [fNum, h0] at hl; exact hl
              rw [if_pos h0, List.append_nil] at hsucc
              have HK : Hid (GrpI w s u wb (k + 1) u11 wr) := by unfold GrpI; rw [hsucc]; exact hI
              clear hM hI hsucc h0
              go_wp2
              go_roundw
              case rel => exact ⟨k + 1, by omega, by go_num, HK.out⟩
              case measure => simp [intOf]; omega
            · have h0' : (tally s u (k : Int) : Int) ≠ 0 := by omega
              have hl : (Instr.lookup 83 (.map (some w.heap.size)) (.int .i64 (k : Int)) true).run Tryz.prog wr = .ok (.tuple #[.int .i64 (tally s u (k : Int)), .bool true]) wr := by
                simp only [fNum, if_neg h0'] at hl; exact hl
              rw [if_neg h0] at hsucc
              obtain ⟨i0, hi, hz0, hz1, hz2⟩ := info_parts info90
              have HK : Hid (∀ o v' w', (wr.alloc o).grownBy w' u11.ownBlock → w'.ownsRow wb.heap.size 101 2 v' ((groupsTo s u k).length + 1) (cells2 (groupsTo s u k) ++ [.int .i64 (k : Int), .int .i64 (tally s u (k : Int))]) → GrpI w s u wb (k + 1) v' w') := by
                intro o v' w' hg ho
                unfold GrpI
                rw [hsucc]
                refine ⟨?_, (hI.2.1.alloc o).grown hg (fun i hi => .inl (own_ge hI.1 hi).1), fun e => by simp at e⟩
                have e : cells2 (groupsTo s u k ++ [((k : Int), (tally s u (k : Int) : Int))]) = cells2 (groupsTo s u k) ++ [.int .i64 (k : Int), .int .i64 (tally s u (k : Int))] := by simp [cells2]
                rw [e, List.length_append]; exact ho
              have hown := hI.1
              have hbs := hI.2.1.size
              obtain ⟨m, hm⟩ : ∃ m, (groupsTo s u k).length = m := ⟨_, rfl⟩
              rw [hm] at hown hgl HK
              generalize tally s u (k : Int) = tl at *
              clear hM hI hsucc h0 h0' hm
              go_wp2_with (at_builtin; refine wpList_append_own_at _ rfl _ _ 59 rfl wb.heap.size 101 i0 (.agg #[.int .i64 0, .int .i64 0]) 2 16 Tryz.underlying59 hi hz0 hz1 hz2 rfl (by decide) u11 m _ rfl (hown.alloc _) ⟨wr.heap.size, 0, none⟩ 1 1 [.int .i64 (k : Int), .int .i64 tl] rfl rfl (cell_two_new _ _ _ _) (by intro u hu; simp only [List.mem_cons, List.not_mem_nil, or_false] at hu; rcases hu with rfl | rfl <;> rfl) (by unfold maxLen; omega) (by omega) (by simp; omega) ?_
                           intro v' w' hown' hgrow hnil' hloc)
              have HK1 : Hid (GrpI w s u wb (k + 1) v' w') := HK.out _ v' w' hgrow hown'
              clear hgrow hown' hown HK
              go_roundw
              case rel => exact ⟨k + 1, by omega, by go_num, HK1.out⟩
              case measure => simp [intOf]; omega
          · have HE : Hid (CountsErr w (groupsL s u) (groupsErr u) (.returned (.tuple #[u11, .int .i64 0])) wr) := by
              have e : k = 3 := by omega
              subst e
              rw [HL.out.1, HL.out.2]
              have hI' := hI
              exact ⟨u11, rfl, own_base hI'.1 HT.out.2.size, HT.out.2.trans hI'.2.1, hI'.2.2⟩
            clear hI
            go_wp2
            refine bodyPost_ret (v := .tuple #[u11, .int .i64 0]) (by simp [results, Tryz.results26, go_sem]) rfl HE.out
end
end Go.Proofs.Qxb6500357aGreat
