import Derived.Test.Qxb6500357aRank
namespace Go.Proofs.Qxb6500357a
open Go.RowKit Go.Tag
set_option linter.unusedVariables false
set_option linter.unusedSimpArgs false
set_option maxRecDepth 100000
attribute [local simp] str_size
attribute [local go_sem] str_size

/-- The outer loop's state. -/
structure RankI (w : World) (c : Word → Nat) (f : Word → Option Value) (bf r N : Nat) (v : Value) (A : List Word) (left : Word → Bool) (cnt : Nat) (wr : World) : Prop where
  range : RangeFn wr bf r kStr f left cnt
  sorted : A.Pairwise (fun a b => aheadC c a b = true)
  mem : ∀ k, k ∈ A ↔ (f k).isSome = true ∧ left k = false
  own : wr.ownsRow w.heap.size 9 1 v A.length (A.map vStr)
  ner : v.ownBlock ≠ some r
  fr : Fr No w wr
  num : A.length + cnt = N
def RankRel (w : World) (c : Word → Nat) (f : Word → Option Value) (bf r N : Nat) (v : Value) (wr : World) : Prop := ∃ A left cnt, RankI w c f bf r N v A left cnt wr
/-- The inner loop's state. -/
def InsR (c : Word → Nat) (w2 : World) (base : Nat) (g cap n : Nat) (E : List Word) (k : Nat) (y : Word) (wr : World) : Prop :=
  Above (fun a b => aheadC c a b = true) E k y ∧ wr.ownsRow base 9 1 (.slice (some ⟨g, 0, none⟩) n cap) n ((layAt E k y).map vStr) ∧ Fr (fun k => k = g) w2 wr

/-- What ranked leaves. -/
def RankPost (w : World) (c : Word → Nat) (ks : List Word) (e : Ending) (w' : World) : Prop :=
  ∃ (v : Value) (A : List Word), e = .returned v ∧ w'.ownsRow w.heap.size 9 1 v A.length (A.map vStr) ∧ A.Pairwise (fun a b => aheadC c a b = true) ∧ (∀ k, k ∈ A ↔ k ∈ ks) ∧ A.length = ks.length ∧ Fr No w w' ∧ ∃ ao cap, v = .slice ao A.length cap

theorem fFreq_mem (c : Word → Nat) (ks : List Word) (u : Word) : u ∈ ks ↔ (fFreq c ks u).isSome = true := by
  unfold fFreq; by_cases h : u ∈ ks <;> simp [h]

set_option maxHeartbeats 1000000 in
theorem ranked_any (c : Word → Nat) (ks : List Word) (bf : Nat) (w : World) (h : MapFn w bf kStr (fFreq c ks)) (ho : Off c ks) (hn : ks.Nodup) (hl : ks.length ≤ 117) : Calls Try.prog 49 #[.map (some bf)] w (RankPost w c ks) := by
  have hln := fun ty => h.len (P := Try.prog) (t := 85) keyStr Try.underlying85 hn (fFreq_mem c ks) ty
  have hbw := h.lt
  obtain ⟨i0, hi, hz0, hz1, hz2⟩ := info_parts info9
  obtain ⟨w0, hmk, hown0, hgr0⟩ := run_make_own (P := Try.prog) w w.heap.size 48 9 i0 (.string ⟨#[]⟩) 1 Try.underlying48 hi hz0 hz1 .i64 .i64 ks.length (by rw [hz2]; omega) (by unfold maxLen; omega) (Nat.le_refl _)
  have hf0 : Fr No w w0 := (Fr.refl No w).grown hgr0 (fun k e => by cases e)
  have hw0 : w.heap.size < w0.heap.size := (own_cells hown0).2.1
  obtain ⟨o, hrg, hR0⟩ := (h.fr hf0 (fun h => h)).range (P := Try.prog) (t := 85) keyStr Try.underlying85 hn (fFreq_mem c ks)
  have HP0 : Hid (RankRel w c (fFreq c ks) bf w0.heap.size ks.length (.slice (some ⟨w.heap.size, 0, none⟩) 0 ks.length) (w0.alloc o)) :=
    ⟨[], _, _, ⟨hR0, List.Pairwise.nil, fun k => by cases h : fFreq c ks k <;> simp [h], own_fr hown0 ((Fr.refl No _).alloc _) (fun _ _ h => h), by simp only [Value.ownBlock, ne_eq, Option.some.injEq]; omega, hf0.alloc _, by simp⟩⟩
  have HK : Hid ((∀ k, k ∈ ks ↔ (fFreq c ks k).isSome = true) ∧ ks.Nodup ∧ Off c ks) := ⟨fFreq_mem c ks, hn, ho⟩
  have HFQ : Hid (∀ w', MapFn w' bf kStr (fFreq c ks) → ∀ a b, Calls Try.prog 75 #[.map (some bf), .string (str a), .string (str b)] w' fun e w'' => e = .returned (.bool (aheadC c a b)) ∧ w'' = w') := fun w' hm a b => ahead_any c ks bf a b w' hm ho
  clear hR0 h hn ho hown0 hgr0 hf0
  obtain ⟨r, hr⟩ : ∃ r, w0.heap.size = r := ⟨_, rfl⟩
  rw [hr] at hrg HP0 hw0
  clear hr
  generalize fFreq c ks = f at *
  generalize hNN : ks.length = N at *
  go_enter Try.func49, Try.ntmps49
  go_wp2
  go_loopw [3] (fun v wr => RankRel w c f bf r N v wr) (fun _ wr => toGo bf r wr)
  case atStart => exact HP0.out
  case round =>
    obtain ⟨A, left, cnt, hG⟩ := hrel
    rcases hG.range.next (P := Try.prog) keyStr 0 with ⟨h0, hall, hnx⟩ | ⟨k, v, w1, hlk, hfk, hnx, hpos, hR1, hF1, hsz, hen⟩
    · have HF : Hid (RankPost w c ks (.returned u3) wr) := by
        obtain ⟨ao, cap, hv, -⟩ := own_sl hG.own
        refine ⟨u3, A, rfl, hG.own, hG.sorted, fun k => by rw [hG.mem, HK.out.1, hall]; simp, by have := hG.num; omega, hG.fr, ao, cap, ?_⟩
        rw [hv]; simp
      clear hG hall
      go_wp2
      go_ret
      exact HF.out
    · simp only [kStr] at hnx hen
      have hnum := hG.num
      have hfs := hG.fr.size
      have hrw := hG.range.lt
      have hown : w1.ownsRow w.heap.size 9 1 u3 A.length (A.map vStr) := own_fr hG.own hF1 (fun k hk e => hG.ner (by rw [hk, e]))
      have HG : Hid (RankI w c f bf r N u3 A left cnt wr ∧ RangeFn w1 bf r kStr f (fun j => left j && !decide (j = k)) (cnt - 1) ∧ Fr (fun i => i = r) wr w1 ∧ left k = true ∧ f k = some v) := ⟨hG, hR1, hF1, hlk, hfk⟩
      have hm : A.length ≤ 117 := by omega
      have hbig : wr.heap.size = w1.heap.size := hsz.symm
      have hbig1 : w.heap.size ≤ w1.heap.size := by omega
      have hbig2 : r < w1.heap.size := by omega
      clear hG hR1 hF1 hlk hfk hsz hbig
      obtain ⟨m, hAm⟩ : ∃ m, A.length = m := ⟨_, rfl⟩
      rw [hAm] at hown hm hnum
      have HAm : Hid (A.length = m) := hAm
      clear hAm
      go_wp2_with (at_builtin; refine wpList_append_own_at _ rfl _ _ 48 rfl w.heap.size 9 i0 (.string ⟨#[]⟩) 1 16 Try.underlying48 hi hz0 hz1 hz2 rfl (by decide) u3 m _ rfl (hown.alloc _) ⟨w1.heap.size, 0, none⟩ 1 1 [.string (str k)] rfl rfl (cell_one_new _ _ _) (by intro u hu; simp only [List.mem_singleton] at hu; subst hu; rfl) (by unfold maxLen; omega) (by omega) (by simp; omega) ?_
                   intro v' w2 hown' hgrow hnil' hloc
                   obtain ⟨g, cap, hv, -⟩ := own_at hown' (by omega)
                   subst hv)
      have HW : Hid (InsR c w2 w.heap.size g cap (m + 1) A m k w2 ∧ g ≠ r ∧ g ≠ bf ∧ RangeFn w2 bf r kStr f (fun j => left j && !decide (j = k)) (cnt - 1) ∧ Fr No w w2 ∧ w.heap.size ≤ g) := by
        have hm' := HAm.out
        obtain ⟨hg1, -⟩ := own_cells hown'
        have hgr : g ≠ r := by
          rcases hloc with e | e
          · intro e'; rw [e'] at e; exact HG.out.1.ner e.symm
          · simp only [Value.ownBlock, Option.some.injEq, World.size_alloc] at e; omega
        have hfr1 : Fr (fun k => k = r ∨ u3.ownBlock = some k) wr w2 := ((HG.out.2.2.1.mono (fun k _ e => .inl e)).alloc _).grown hgrow (fun k hk => .inr (.inr hk))
        refine ⟨⟨by rw [← hm']; exact above_start A k, by rw [← hm', lay_end, List.map_append, hm']; exact hown', Fr.refl _ _⟩, hgr, by omega, ?_, ?_, hg1⟩
        · refine HG.out.2.1.keep ?_ ?_
          · rw [hgrow.block _ (by simp; omega) (fun e => by have := own_ge HG.out.1.own e.symm; omega), Below.heap_alloc _ _ _ (by omega)]
          · rw [hgrow.block _ (by simp; omega) (fun e => HG.out.1.ner e.symm), Below.heap_alloc _ _ _ (by omega)]
        · refine HG.out.1.fr.trans' hfr1 ?_
          rintro i hi (e | e)
          · omega
          · have := own_ge HG.out.1.own e; omega
      clear hown' hgrow hnil' hloc hown
      have hN1 : (0 : Int) ≤ m := by omega
      go_loopw [5] (fun i wr' => ∃ j : Nat, j ≤ m ∧ i = .int .i64 j ∧ InsR c w2 w.heap.size g cap (m + 1) A j k wr') (fun i _ => (intOf i).toNat)
      case atStart => exact ⟨m, Nat.le_refl _, by go_num, HW.out.1⟩
      case round =>
        obtain ⟨j, hjm, rfl, hI⟩ := hrel
        have hA := HAm.out
        obtain ⟨-, hgw, hcell, hfz, hset⟩ := own_cells hI.2.1
        have hcj : wr.cell? ⟨g, j, none⟩ = some (.string (str k)) := hcell j _ (by rw [layAt_map, layAt_get _ _ _ (by simp; omega)]; rfl)
        have hjd : (j : Int) < ((m + 1 : Nat) : Int) := by omega
        have hR3 : RangeFn wr bf r kStr f (fun j => left j && !decide (j = k)) (cnt - 1) := HW.out.2.2.2.1.fr hI.2.2 (Ne.symm HW.out.2.2.1) (Ne.symm HW.out.2.1)
        have fin : Hid (j = 0 ∨ (∃ (h : 0 < j) (h' : j - 1 < A.length), ¬ aheadC c k A[j - 1] = true) → ∀ n, RankRel w c f bf r N (.slice (some ⟨g, 0, none⟩) (m + 1) cap) (wr.drewN n) ∧ toGo bf r (wr.drewN n) < cnt) := by
          intro hend n
          have hkA : k ∉ A := fun hk => by have := ((HG.out.1.mem k).1 hk).2; rw [HG.out.2.2.2.1] at this; cases this
          have hL : (layAt A j k).length = m + 1 := by rw [layAt_len, HAm.out]
          have hR4 := hR3.fr ((Fr.refl No _).drewN n) (fun h => h) (fun h => h)
          refine ⟨⟨layAt A j k, _, _, ⟨hR4, ?_, ?_, ?_, ?_, ?_, ?_⟩⟩, by rw [hR4.toGo]; omega⟩
          · refine lay_sorted (ahead_tr c) HG.out.1.sorted (by omega) hI.1 (or_to hend id fun ⟨a, b, c'⟩ => ⟨a, b, ?_⟩)
            exact ahead_tot c (fun e => hkA (e ▸ List.getElem_mem b)) c'
          · intro x
            rw [lay_mem, HG.out.1.mem]
            by_cases hx : x = k
            · subst hx; simp [HG.out.2.2.2.2, HG.out.2.2.2.1]
            · simp [hx]
          · rw [hL]; exact own_fr hI.2.1 ((Fr.refl No _).drewN n) (fun _ _ h => h)
          · simp only [Value.ownBlock, ne_eq, Option.some.injEq]; exact HW.out.2.1
          · exact (HW.out.2.2.2.2.1.trans' hI.2.2 (fun i hi e => by have := HW.out.2.2.2.2.2; omega)).drewN n
          · rw [hL]; omega
        have htg := HG.out.1.range.toGo
        by_cases hj0 : j = 0
        · have H0 : Hid (j = 0) := hj0
          have hjk : decide (0 < j) = false := by simp; omega
          clear hj0 hcell hfz hset hR3
          go_wp2
          go_roundw
          case rel => exact (fin.out (.inl H0.out) 0).1
          case measure => rw [htg]; exact (fin.out (.inl H0.out) 0).2
        · have hjk : decide (0 < j) = true := by simp; omega
          have hjp : 0 < j := by omega
          have hj1 : (1 : Int) ≤ (j : Int) := by omega
          have hk1 : j - 1 < A.length := by omega
          have hcz : wr.cell? ⟨g, j - 1, none⟩ = some (.string (str A[j - 1])) := hcell (j - 1) _ (by rw [layAt_map, layAt_lt _ _ _ (by simp; omega) (by omega)]; simp [hk1, vStr])
          have hjn : ((j : Int) - 1).toNat = j - 1 := by omega
          have hjn2 : (j : Int) - 1 < ((m + 1 : Nat) : Int) := by omega
          have hjn3 : (0 : Int) ≤ (j : Int) - 1 := by omega
          have HQ : Hid (∀ n, Calls Try.prog 75 #[.map (some bf), .string (str k), .string (str A[j - 1])] (wr.drewN n) fun e w'' => e = .returned (.bool (aheadC c k A[j - 1])) ∧ w'' = wr.drewN n) := fun n => HFQ.out (wr.drewN n) (hR3.map.fr ((Fr.refl No _).drewN n) (fun h => h)) k A[j - 1]
          by_cases hyz : aheadC c k A[j - 1] = true
          · have HI1 : Hid (∀ n, InsR c w2 w.heap.size g cap (m + 1) A (j - 1) k (((wr.drewN n).setCell ⟨g, j, none⟩ (.string (str A[j - 1]))).setCell ⟨g, j - 1, none⟩ (.string (str k)))) := fun n => by
              refine ⟨above_down hI.1 (by omega) hk1 hyz, ?_, (((hI.2.2.drewN n).setCell (p := ⟨g, j, none⟩) (.inr rfl) _).setCell (p := ⟨g, j - 1, none⟩) (.inr rfl) _)⟩
              rw [← lay_swap A j k (by omega) hk1, List.set_comm _ _ (by omega), List.map_set, List.map_set]
              exact (own_cells ((own_cells (own_fr hI.2.1 ((Fr.refl No _).drewN n) (fun _ _ h => h))).2.2.2.2 j (.string (str A[j - 1])) (by omega))).2.2.2.2 (j - 1) (.string (str k)) (by omega)
            have hf1 := hfz j
            have hf2 := hfz (j - 1)
            rw [hyz] at HQ
            generalize A[j - 1] = z at hcz HQ HI1
            clear hcell hfz hset hyz fin hR3
            go_wp2
            go_quiet (exact (HQ.out _).mono fun e w'' h => ⟨h.1, _, h.2⟩)
            go_wp2
            go_region
            go_wp2
            go_roundw
            case rel => exact ⟨j - 1, by omega, by go_num, HI1.out _⟩
            case measure => simp [intOf]; omega
          · have HZ : Hid (∃ (h : 0 < j) (h' : j - 1 < A.length), ¬ aheadC c k A[j - 1] = true) := ⟨by omega, hk1, hyz⟩
            have hyf : aheadC c k A[j - 1] = false := by simpa using hyz
            rw [hyf] at HQ
            generalize A[j - 1] = z at hcz HQ
            clear hcell hfz hset hyz hyf hR3
            go_wp2
            go_quiet (exact (HQ.out _).mono fun e w'' h => ⟨h.1, _, h.2⟩)
            go_wp2
            go_roundw
            case rel => exact (fin.out (.inr HZ.out) _).1
            case measure => rw [htg]; exact (fin.out (.inr HZ.out) _).2
end Go.Proofs.Qxb6500357a
