import Derived.Test.Qxb6500357aHead
import Derived.Test.Qxb6500357aDo
import Derived.Test.Qxb6500357aIxShow
namespace Go.Proofs.Qxb6500357a
open Go.RowKit Go.Tag
set_option linter.unusedVariables false
set_option linter.unusedSimpArgs false
set_option maxRecDepth 100000
attribute [local simp] str_size
attribute [local go_sem] str_size

theorem find_or (s : St) (u : Word) (hu : u.length ≤ 12) : findL s 2 u u = s.holders u := by
  have e : findErr 2 u u = 0 := by unfold findErr; rw [if_neg (by omega), if_pos (by decide)]
  unfold findL
  rw [if_pos e]
  unfold setL findSet St.holders
  rw [if_neg (by decide), if_pos rfl]
  congr 1
  funext i; simp
theorem groups_to (s : St) (u : Word) (hu : u.length ≤ 12) : groupsL s u = groupsTo s u 3 := by
  unfold groupsL; rw [if_neg (by omega)]

theorem slC_fr {w w' : World} {v : Value} {l : List (Int × Int)} (h : SlC w v l) (f : Fr No w w') : SlC w' v l := by
  obtain ⟨ao, cap, h1, h2⟩ := h
  refine ⟨ao, cap, h1, fun j p hj => ?_⟩
  obtain ⟨g, o, e1, e2, e3⟩ := h2 j p hj
  exact ⟨g, o, e1, f.cell e2 (fun h => h), f.cell e3 (fun h => h)⟩

set_option maxHeartbeats 1000000 in
theorem meets_any (y x : Nat) (F : Nat → Prop) (gb t0 g0 x0 p0 : Nat) (s : St) (B : Int) (u : Word) (w : World) (hq : QAt w F y x s) (h : GhostAt w gb t0 g0 x0 p0 s) (hf : Fine s B) (hu : u.length ≤ 12) :
    Calls Try.prog 21 #[.pointer (some ⟨y, 0, none⟩), .pointer (some ⟨gb, 0, none⟩), .string (str u)] w fun e w' => e = .returned (.bool true) ∧ Fr No w w' := by
  have HH : Hid (Calls Try.prog 45 #[.pointer (some ⟨gb, 0, none⟩), .string (str u)] w (HoldPost w s u)) := holding_any gb t0 g0 x0 p0 s B u w h hf (by omega)
  have HQ : Hid (∀ w', Fr No w w' → QAt w' F y x s) := fun w' f => ⟨f.heap hq.1 (fun h => h), hq.2.frNo f⟩
  have HFI : Hid (∀ w', Fr No w w' → Calls Try.prog 34 #[.pointer (some ⟨y, 0, none⟩), .int .i64 2, .string (str u), .string (str u)] w' fun e w'' => ∃ v, e = .returned (.tuple #[v, .int .i64 (findErr 2 u u)]) ∧ Sl w'' v ((s.holders u).map (Value.int .i64)) ∧ Fr No w' w'') := fun w' f => by
    refine (find_any y x F s B 2 u u w' (HQ.out w' f) hf).mono ?_
    rintro e w'' ⟨v, rfl, ho, f', -⟩
    rw [find_or s u hu] at ho
    exact ⟨v, rfl, own_sl ho, f'⟩
  have HGR : Hid (∀ w', Fr No w w' → Calls Try.prog 36 #[.pointer (some ⟨y, 0, none⟩), .string (str u)] w' fun e w'' => ∃ v, e = .returned (.tuple #[v, .int .i64 (groupsErr u)]) ∧ SlC w'' v (groupsTo s u 3) ∧ Fr No w' w'') := fun w' f => by
    refine (groups_any y x F s B u w' (HQ.out w' f) hf).mono ?_
    rintro e w'' ⟨v, rfl, ho, f', -⟩
    rw [groups_to s u hu] at ho
    exact ⟨v, rfl, own_slC ho, f'⟩
  have l3 : (s.holders u).length ≤ 9 := List.length_filter_le _ idsAll
  have HI1 : Hid (∀ w' v', Sl w' v' ((s.holders u).map (Value.int .i64)) → Calls Try.prog 46 #[v'] w' fun e w'' => e = .returned (.string (str (ints (s.holders u)))) ∧ Fr No w' w'') := fun w' v' hs => ints_any v' (s.holders u) w' hs (holders_num s u) (by omega)
  have HC1 : Hid (∀ w' v', SlC w' v' (groupsTo s u 3) → Calls Try.prog 50 #[v'] w' fun e w'' => e = .returned (.string (str (counts (groupsTo s u 3)))) ∧ Fr No w' w'') := fun w' v' hs => counts_any v' (groupsTo s u 3) w' hs (fun n hn => by have := groupsTo_mem s u 3 n hn; omega) (by have := groupsTo_len s u 3; omega)
  clear hq h hf
  go_enter Try.func21, Try.ntmps21
  go_wp2_with (go_at_call 45; refine HH.out.mono ?_; rintro e w1 ⟨v6, b, rfl, hown6, hrow6, -, f1⟩
               have HS6 : Hid (Sl w1 v6 ((s.holders u).map (Value.int .i64)) ∧ Fr No w w1) := ⟨own_sl hown6, f1⟩
               have HR6 : Hid (RowK w1 b 3 (fun g => .int .i64 (cntBy (hasOf s) s.groupOf ((g : Int), u) : Nat))) := hrow6
               clear hown6 hrow6 f1)
  go_loopw [9, 10] (fun v i wr => ∃ j : Nat, j ≤ 3 ∧ i = .int .i64 j ∧ GrpI w s u w1 j v wr) (fun _ i _ => 3 - (intOf i).toNat)
  case atStart => exact ⟨0, by omega, rfl, own_nil _ _ _ _, Fr.refl _ _, fun _ => rfl⟩
  case round =>
    obtain ⟨j, hj, rfl, hI⟩ := hrel
    by_cases hlt : j < 3
    · have hcr := frNo_cell hI.2.1 (HR6.out.cell hlt)
      have hcb := cntBy_le (hasOf s) s.groupOf ((j : Int), u)
      have HSU : Hid (groupsTo s u (j + 1) = groupsTo s u j ++ (if cntBy (hasOf s) s.groupOf ((j : Int), u) = 0 then [] else [((j : Int), (cntBy (hasOf s) s.groupOf ((j : Int), u) : Int))])) := groupsTo_succ s u j hlt
      have hl2 : (j : Int) ≤ 2 := by omega
      have hgl := groupsTo_len s u j
      by_cases h0 : cntBy (hasOf s) s.groupOf ((j : Int), u) = 0
      · have HK : Hid (GrpI w s u w1 (j + 1) u9 wr) := by
          have e : groupsTo s u (j + 1) = groupsTo s u j := by rw [HSU.out, if_pos h0, List.append_nil]
          unfold Hid GrpI; rw [e]; exact hI
        rw [h0] at hcr
        have hcr' : wr.cell? ⟨b, j, none⟩ = some (.int .i64 0) := hcr
        clear hI h0 hcr
        go_wp2
        go_roundw
        case rel => exact ⟨j + 1, by omega, by go_num, HK.out⟩
        case measure => simp [intOf]; omega
      · have hpos : decide ((0 : Int) < (cntBy (hasOf s) s.groupOf ((j : Int), u) : Int)) = true := by simp; omega
        have hpos' : (0 : Int) < (cntBy (hasOf s) s.groupOf ((j : Int), u) : Int) := by omega
        have HE : Hid (groupsTo s u (j + 1) = groupsTo s u j ++ [((j : Int), (cntBy (hasOf s) s.groupOf ((j : Int), u) : Int))]) := by rw [Hid, HSU.out, if_neg h0]
        have hown := hI.1
        have HII : Hid (GrpI w s u w1 j u9 wr) := hI
        have hbs : w1.heap.size ≤ wr.heap.size := hI.2.1.size
        obtain ⟨i0, hi, hz0, hz1, hz2⟩ := info_parts info90
        obtain ⟨m, hm⟩ : ∃ m, (groupsTo s u j).length = m := ⟨_, rfl⟩
        rw [hm] at hown hgl
        have HMM : Hid ((groupsTo s u j).length = m) := hm
        generalize cntBy (hasOf s) s.groupOf ((j : Int), u) = tl at *
        clear hI h0 hm
        go_wp2_with (at_builtin; refine wpList_append_own_at _ rfl _ _ 74 rfl w1.heap.size 90 i0 (.agg #[.int .i64 0, .int .i64 0]) 2 16 Try.underlying74 hi hz0 hz1 hz2 rfl (by decide) u9 m _ rfl (hown.alloc _) ⟨wr.heap.size, 0, none⟩ 1 1 [.int .i64 (j : Int), .int .i64 (tl : Int)] rfl rfl (cell_two_new _ _ _ _) (by intro u hu; simp only [List.mem_cons, List.not_mem_nil, or_false] at hu; rcases hu with rfl | rfl <;> rfl) (by unfold maxLen; omega) (by omega) (by simp; omega) ?_
                     intro v' w2 hown' hgrow hnil' hloc
                     have HK : Hid (GrpI w s u w1 (j + 1) v' w2) := by
                       refine ⟨?_, (HII.out.2.1.alloc _).grown hgrow (fun k hk => .inl (own_ge HII.out.1 hk).1), fun e => by rw [HE.out] at e; simp at e⟩
                       rw [HE.out, List.length_append, List.length_singleton, HMM.out]
                       have e : cells2 (groupsTo s u j ++ [((j : Int), (tl : Int))]) = cells2 (groupsTo s u j) ++ [.int .i64 (j : Int), .int .i64 (tl : Int)] := by simp [cells2]
                       rw [e]; exact hown'
                     clear hown' hgrow hnil' hloc)
        go_roundw
        case rel => exact ⟨j + 1, by omega, by go_num, HK.out⟩
        case measure => simp [intOf]; omega
    · have hj3 : j = 3 := by omega
      subst hj3
      have HS9 : Hid (SlC wr u9 (groupsTo s u 3) ∧ Fr No w1 wr) := ⟨own_slC hI.1, hI.2.1⟩
      have HW : Hid (Fr No w wr) := HS6.out.2.trans hI.2.1
      clear hI
      go_wp2_with first
        | (go_at_call 34; refine (HFI.out wr HW.out).mono ?_; rintro e w2 ⟨v11, rfl, hs11, f2⟩)
        | (go_at_call 36; refine (HGR.out w4 ((HW.out.trans f2).trans (f3.trans f4))).mono ?_; rintro e w5 ⟨v14, rfl, hs14, f5⟩)
        | (go_at_call 46
           first
             | (refine (HI1.out w3 v6 (((HS6.out.1.fr HS9.out.2).fr f2).fr f3)).mono ?_
                rintro e w4 ⟨rfl, f4⟩)
             | (refine (HI1.out w2 v11 hs11).mono ?_
                rintro e w3 ⟨rfl, f3⟩))
        | (go_at_call 50
           first
             | (refine (HC1.out w6 u9 (slC_fr HS9.out.1 (((f2.trans f3).trans (f4.trans f5)).trans f6))).mono ?_
                rintro e w7 ⟨rfl, f7⟩)
             | (refine (HC1.out w5 v14 hs14).mono ?_
                rintro e w6 ⟨rfl, f6⟩))
      go_ret
      exact ⟨by simp, HW.out.trans ((f2.trans (f3.trans f4)).trans ((f5.trans f6).trans f7))⟩
set_option maxHeartbeats 1000000 in
theorem meetsAll_any (y x : Nat) (F : Nat → Prop) (gb t0 g0 x0 p0 : Nat) (s : St) (B : Int) (v : Value) (w : World) (hq : QAt w F y x s) (h : GhostAt w gb t0 g0 x0 p0 s) (hv : SlW w v s.words) (hf : Fine s B) :
    Calls Try.prog 22 #[.pointer (some ⟨y, 0, none⟩), .pointer (some ⟨gb, 0, none⟩), v] w fun e w' => e = .returned (.bool true) ∧ Fr No w w' := by
  have HM : Hid (∀ (u : Word) (w' : World), u ∈ s.words → Fr No w w' → Calls Try.prog 21 #[.pointer (some ⟨y, 0, none⟩), .pointer (some ⟨gb, 0, none⟩), .string (str u)] w' fun e w'' => e = .returned (.bool true) ∧ Fr No w' w'') := fun u w' hu f =>
    meets_any y x F gb t0 g0 x0 p0 s B u w' ⟨f.heap hq.1 (fun h => h), hq.2.frNo f⟩ (GhostR.fr h f (fun _ _ h => h)) hf (word_short hf u hu)
  have hwl := words_len hf
  obtain ⟨ao, cap, rfl, hcl⟩ := hv.sl
  generalize s.words = ws at *
  obtain ⟨n, hn⟩ : ∃ n, ws.length = n := ⟨_, rfl⟩
  have HN : Hid (ws.length = n) := hn
  rw [List.length_map, hn]
  rw [hn] at hwl
  clear hq h hv hf hn
  go_enter Try.func22, Try.ntmps22
  go_wp2
  go_loopw [7] (fun i wr => ∃ j : Nat, j ≤ n ∧ i = .int .i64 j ∧ Fr No w wr) (fun i _ => n - (intOf i).toNat)
  case atStart => exact ⟨0, Nat.zero_le _, rfl, Fr.refl _ _⟩
  case round =>
    obtain ⟨j, hj, rfl, hfw⟩ := hrel
    by_cases hlt : j < n
    · have hjl : j < ws.length := by rw [HN.out]; exact hlt
      obtain ⟨g, off, rfl, hc00⟩ := hcl j (.string (str ws[j])) (by simp [hjl])
      have hc0 : wr.cell? ⟨g, off + j, none⟩ = some (.string (str ws[j])) := frNo_cell hfw hc00
      clear hc00
      have HD : Hid (Calls Try.prog 21 #[.pointer (some ⟨y, 0, none⟩), .pointer (some ⟨gb, 0, none⟩), .string (str ws[j])] wr fun e w'' => e = .returned (.bool true) ∧ Fr No wr w'') := HM.out _ wr (List.getElem_mem hjl) hfw
      have HW : Hid (Fr No w wr) := hfw
      clear hcl hfw
      generalize ws[j] = u at *
      clear hjl
      go_wp2_with (go_at_call 21; refine HD.out.mono ?_; rintro e w2 ⟨rfl, f2⟩)
      go_roundw
      case rel => exact ⟨j + 1, by omega, by go_num, HW.out.trans f2⟩
      case measure => simp [intOf]; omega
    · have HW : Hid (Fr No w wr) := hfw
      clear hcl hfw
      go_wp2
      go_ret
      exact ⟨rfl, HW.out⟩
end Go.Proofs.Qxb6500357a
