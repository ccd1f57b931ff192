import Derived.Test.Qxb6500357aLow
import Derived.BigQuiet
import Derived.Deep.RegionHeld3
namespace Go.Tag
open Go.Proofs.Qxb6500357a
set_option linter.unusedVariables false
set_option linter.unusedSimpArgs false
theorem len3 (f : Int → Int) : ∀ l : List Int, (∀ i ∈ l, 0 ≤ f i ∧ f i ≤ 2) → l.length = (l.filter fun i => decide (f i = 0)).length + (l.filter fun i => decide (f i = 1)).length + (l.filter fun i => decide (f i = 2)).length
  | [], _ => rfl
  | a :: l, h => by
    have ih := len3 f l (fun i hi => h i (by simp [hi]))
    have ha := h a (by simp)
    simp only [List.filter_cons, List.length_cons]
    rcases (show f a = 0 ∨ f a = 1 ∨ f a = 2 by omega) with e | e | e <;> simp [e] <;> omega
theorem tally_holders (s : St) (u : Word) (g : Int) : ((s.holders u).filter fun i => decide (s.groupOf i = g)).length = tally s u g := by
  unfold St.holders tally cntBy
  rw [List.filter_filter]
  congr 1
  refine List.filter_congr fun i _ => ?_
  simp [Bool.and_comm]
theorem holder_group {s : St} {B : Int} (h : Fine s B) (u : Word) : ∀ i ∈ s.holders u, 0 ≤ s.groupOf i ∧ s.groupOf i ≤ 2 := by
  intro i hi
  have := (holders_mem h u i).1 hi
  cases hd : s.docs i with
  | none => rw [hasOf_none hd] at this; cases this
  | some d => rw [groupOf_some hd]; exact (h.dom i d hd).2.1
theorem gl_sum {s : St} {B : Int} (h : Fine s B) (u : Word) : ((groupsTo s u 3).map (·.2)).sum = ((s.holders u).length : Int) := by
  have e := len3 s.groupOf (s.holders u) (holder_group h u)
  rw [tally_holders, tally_holders, tally_holders] at e
  rw [e]
  unfold groupsTo
  by_cases h0 : tally s u 0 = 0 <;> by_cases h1 : tally s u 1 = 0 <;> by_cases h2 : tally s u 2 = 0 <;> simp [h0, h1, h2] <;> omega
theorem gl_sorted (s : St) (u : Word) : (groupsTo s u 3).Pairwise (fun a b => a.1 < b.1) := by
  unfold groupsTo
  by_cases h0 : tally s u 0 = 0 <;> by_cases h1 : tally s u 1 = 0 <;> by_cases h2 : tally s u 2 = 0 <;> simp [h0, h1, h2]
theorem gl_tally (s : St) (u : Word) (p : Int × Int) (hp : p ∈ groupsTo s u 3) : p.2 = (tally s u p.1 : Int) ∧ 0 < p.2 := by
  unfold groupsTo at hp
  obtain ⟨g, hg, e⟩ := List.mem_filterMap.1 hp
  by_cases h0 : tally s u g = 0
  · rw [if_pos h0] at e; cases e
  · rw [if_neg h0] at e
    simp only [Option.some.injEq] at e
    subst e
    exact ⟨rfl, by show (0 : Int) < (tally s u g : Int); omega⟩
theorem sum_snoc (l : List (Int × Int)) (p : Int × Int) : ((l ++ [p]).map (·.2)).sum = (l.map (·.2)).sum + p.2 := by simp
end Go.Tag
namespace Go.Proofs.Qxb6500357a
open Go.RowKit Go.Tag
set_option linter.unusedVariables false
set_option linter.unusedSimpArgs false
set_option maxRecDepth 100000
attribute [local simp] str_size
attribute [local go_sem] str_size

def sumTo (l : List (Int × Int)) (i : Nat) : Int := ((l.take i).map (·.2)).sum
def inTo (s : St) (L : List Int) (g : Int) (k : Nat) : Nat := ((L.take k).filter fun i => decide (s.groupOf i = g)).length
theorem sumTo_succ (l : List (Int × Int)) (i : Nat) (h : i < l.length) : sumTo l (i + 1) = sumTo l i + l[i].2 := by
  unfold sumTo; rw [take_snoc l i h, sum_snoc]
theorem inTo_succ (s : St) (L : List Int) (g : Int) (k : Nat) (h : k < L.length) : inTo s L g (k + 1) = inTo s L g k + (if s.groupOf L[k] = g then 1 else 0) := by
  unfold inTo; rw [take_snoc L k h, List.filter_append, List.length_append]
  congr 1
  by_cases e : s.groupOf L[k] = g <;> simp [e]
theorem inTo_le (s : St) (L : List Int) (g : Int) (k : Nat) : inTo s L g k ≤ L.length := by
  unfold inTo
  exact Nat.le_trans (List.length_filter_le _ _) (by simp; omega)
theorem sumTo_le {s : St} {u : Word} (i : Nat) : 0 ≤ sumTo (groupsTo s u 3) i ∧ sumTo (groupsTo s u 3) i ≤ 9 * i := by
  induction i with
  | zero => simp [sumTo]
  | succ i ih =>
    by_cases h : i < (groupsTo s u 3).length
    · have e := sumTo_succ _ i h
      have h1 := groupsTo_mem s u 3 _ (List.getElem_mem h)
      rw [e]; omega
    · have : sumTo (groupsTo s u 3) (i + 1) = sumTo (groupsTo s u 3) i := by
        unfold sumTo; rw [List.take_of_length_le (by omega), List.take_of_length_le (by omega)]
      rw [this]; omega

set_option maxHeartbeats 2000000 in
theorem groupSum_any (y x : Nat) (F : Nat → Prop) (s : St) (B : Int) (u : Word) (w : World) (h : QAt w F y x s) (hf : Fine s B) (hu : u.length ≤ 12) :
    Calls Try.prog 57 #[belV x, .pointer (some ⟨y, 0, none⟩), .string (str u)] w fun e w' => e = .returned (.bool true) ∧ Fr No w w' := by
  have HQ : Hid (∀ w', Fr No w w' → QAt w' F y x s) := fun w' f => ⟨f.heap h.1 (fun h => h), h.2.frNo f⟩
  have HGR : Hid (∀ w', Fr No w w' → Calls Try.prog 36 #[.pointer (some ⟨y, 0, none⟩), .string (str u)] w' fun e w'' => ∃ v, e = .returned (.tuple #[v, .int .i64 (groupsErr u)]) ∧ SlC w'' v (groupsTo s u 3) ∧ Fr No w' w'') := fun w' f => by
    refine (groups_any y x F s B u w' (HQ.out w' f) hf).mono ?_
    rintro e w'' ⟨v, rfl, ho, f', -⟩
    rw [groups_to s u hu] at ho
    exact ⟨v, rfl, own_slC ho, f'⟩
  have HH : Hid (∀ w', Fr No w w' → Calls Try.prog 80 #[.agg #[.pointer (some ⟨x, 0, none⟩)], .string (str u)] w' fun e w'' => ∃ v, e = .returned v ∧ Sl w'' v ((s.holders u).map (Value.int .i64)) ∧ Fr No w' w'') := fun w' f => holdersB_any x F s B u w' (HQ.out w' f).2 hf
  have HA : Hid (∀ w', Fr No w w' → Calls Try.prog 79 #[.pointer (some ⟨y, 0, none⟩), .string (str u)] w' fun e w'' => ∃ v, e = .returned v ∧ Sl w'' v ((s.holders u).map (Value.int .i64)) ∧ Fr No w' w'') := fun w' f => all_any y x F s B u w' (HQ.out w' f) hf hu
  have HGA : Hid (∀ w' id, Fr No w w' → id ∈ s.holders u → Calls Try.prog 82 #[.agg #[.pointer (some ⟨x, 0, none⟩)], .int .i64 id] w' fun e w'' => e = .returned (.int .i64 (s.groupOf id)) ∧ Fr No w' w'') := fun w' id f hid => groupAt_any x F s B w' id (HQ.out w' f).2 hf (hasOf_dom hf ((holders_mem hf u id).1 hid))
  have l3 : (s.holders u).length ≤ 9 := List.length_filter_le _ idsAll
  have HSUM : Hid (sumTo (groupsTo s u 3) (groupsTo s u 3).length = ((s.holders u).length : Int)) := by rw [Hid, sumTo, List.take_length]; exact gl_sum hf u
  have HSL : Hid (∀ i, 0 ≤ sumTo (groupsTo s u 3) i ∧ sumTo (groupsTo s u 3) i ≤ 9 * i) := fun i => sumTo_le i
  have HTL : Hid (∀ p ∈ groupsTo s u 3, p.2 = (inTo s (s.holders u) p.1 (s.holders u).length : Int) ∧ 0 < p.2) := fun p hp => by
    have := gl_tally s u p hp
    refine ⟨?_, this.2⟩
    rw [this.1]; unfold inTo; rw [List.take_length, tally_holders]
  have HGS : Hid ((groupsTo s u 3).Pairwise (fun a b => a.1 < b.1)) := gl_sorted s u
  have hgl := groupsTo_len s u 3
  generalize groupsTo s u 3 = GL at *
  have hbx : ∀ o : Obj, (w.alloc o).heap[w.heap.size]? = some o := fun o => heap_alloc_new w o
  clear h hf
  generalize s.holders u = HLs at *
  obtain ⟨m, hm⟩ : ∃ m, HLs.length = m := ⟨_, rfl⟩
  obtain ⟨n, hn⟩ : ∃ n, GL.length = n := ⟨_, rfl⟩
  have HN : Hid (HLs.length = m ∧ GL.length = n) := ⟨hm, hn⟩
  rw [hm] at l3
  rw [hn] at hgl
  clear hm hn
  unfold belV
  go_enter Try.func57, Try.ntmps57
  go_wp2_with first
    | (go_at_call 36; refine (HGR.out _ ((Fr.refl _ _).alloc _)).mono ?_; rintro e w1 ⟨v7, rfl, hv7, f1⟩
       have cb1 := f1.cell (b := w.heap.size) (o := 0) (v := .pointer (some ⟨x, 0, none⟩)) (by rw [cell_of_heap (hbx _)]; rfl) (fun h => h)
       have cl1 : w.heap.size < w1.heap.size := Nat.lt_of_lt_of_le (by simp) f1.size
       have F1 : Fr No w w1 := ((Fr.refl _ _).alloc _).trans f1)
    | (go_at_call 80; refine (HH.out w1 F1).mono ?_; rintro e w2 ⟨v9, rfl, hv9, f2⟩
       have cb2 := f2.cell cb1 (fun h => h)
       have cl2 : w.heap.size < w2.heap.size := Nat.lt_of_lt_of_le cl1 f2.size
       have F2 : Fr No w w2 := F1.trans f2
       obtain ⟨a7, cap7, rfl, hc7⟩ := slC_fr hv7 f2
       obtain ⟨a9, cap9, rfl, hc9⟩ := hv9
       rw [List.length_map, HN.out.1, HN.out.2])
  go_loopw [10, 11] (fun sm i wr => ∃ q : Nat, q ≤ n ∧ i = .int .i64 q ∧ sm = .int .i64 (sumTo GL q) ∧ Fr No w2 wr) (fun _ i _ => n - (intOf i).toNat)
  case atStart => exact ⟨0, Nat.zero_le _, rfl, rfl, Fr.refl _ _⟩
  case round =>
    obtain ⟨q, hq, rfl, rfl, hfr⟩ := hrel
    by_cases hlt : q < n
    · have hql : q < GL.length := by rw [HN.out.2]; exact hlt
      obtain ⟨g7, o7, rfl, d1, d2⟩ := hc7 q GL[q] (List.getElem?_eq_getElem hql)
      have d1 := hfr.cell d1 (fun h => h)
      have d2 := hfr.cell d2 (fun h => h)
      have hT := HTL.out GL[q] (List.getElem_mem hql)
      have HS1 : Hid (sumTo GL (q + 1) = sumTo GL q + GL[q].2) := sumTo_succ GL q hql
      have hsl := HSL.out q
      have hprev : (decide (0 < q) = false ∧ decide ((0 : Int) < (q : Int)) = false) ∨ (∃ r g', q = r + 1 ∧ decide (0 < q) = true ∧ wr.cell? ⟨g7, o7 + r * 2, none⟩ = some (.int .i64 g') ∧ g' < GL[q].1) := by
        rcases Nat.eq_zero_or_pos q with h0 | h0
        · exact .inl ⟨by simp [h0], by simp [h0]⟩
        · obtain ⟨r, rfl⟩ : ∃ r, q = r + 1 := ⟨q - 1, by omega⟩
          obtain ⟨g', o', e', c', -⟩ := hc7 r GL[r] (List.getElem?_eq_getElem (by omega))
          simp only [Option.some.injEq, Addr.mk.injEq, and_true] at e'
          obtain ⟨rfl, rfl⟩ := e'
          exact .inr ⟨r, GL[r].1, rfl, by simp, hfr.cell c' (fun h => h), List.pairwise_iff_getElem.1 HGS.out r (r + 1) (by omega) hql (by omega)⟩
      clear hc7
      obtain ⟨wo, hwo⟩ : ∃ wo, wo = wr := ⟨_, rfl⟩
      subst hwo
      generalize GL[q] = gq at *
      obtain ⟨g, N⟩ := gq
      simp only at d1 d2 hT HS1 hprev
      clear hql
      have HTT : Hid (N = (inTo s HLs g m : Int) ∧ 0 < N) := by rw [← HN.out.1]; exact hT
      have HFO : Hid (Fr No w2 wo) := hfr
      have cbo := hfr.cell cb2 (fun h => h)
      have clo : w.heap.size < wo.heap.size := Nat.lt_of_lt_of_le cl2 hfr.size
      clear hT hfr
      go_wp2
      go_loopw [12, 13] (fun c k wr => ∃ t : Nat, t ≤ m ∧ k = .int .i64 t ∧ c = .int .i64 (inTo s HLs g t : Nat) ∧ Fr No wo wr) (fun _ k _ => m - (intOf k).toNat)
      case atStart => exact ⟨0, Nat.zero_le _, rfl, rfl, Fr.refl _ _⟩
      case round =>
        obtain ⟨t, ht, rfl, rfl, hfi⟩ := hrel
        by_cases htm : t < m
        · have htl : t < HLs.length := by rw [HN.out.1]; exact htm
          obtain ⟨g9, o9, rfl, e1⟩ := hc9 t (.int .i64 HLs[t]) (by simp [htl])
          have e1 := ((HFO.out.trans hfi).cell e1 (fun h => h))
          have HIS : Hid (inTo s HLs g (t + 1) = inTo s HLs g t + (if s.groupOf HLs[t] = g then 1 else 0)) := inTo_succ s HLs g t htl
          have HMB : Hid (HLs[t] ∈ HLs) := List.getElem_mem htl
          have hi9 := inTo_le s HLs g t
          rw [HN.out.1] at hi9
          clear hc9
          generalize HLs[t] = id at *
          clear htl
          have d1i := hfi.cell d1 (fun h => h)
          have cbi := hfi.cell cbo (fun h => h)
          have cli : w.heap.size < wr.heap.size := Nat.lt_of_lt_of_le clo hfi.size
          have HC : Hid (∀ W, Fr No wr W → Calls Try.prog 82 #[.agg #[.pointer (some ⟨x, 0, none⟩)], .int .i64 id] W fun e w'' => e = .returned (.int .i64 (s.groupOf id)) ∧ Fr No W w'') := fun W f => HGA.out W id ((F2.trans (HFO.out.trans hfi)).trans f) HMB.out
          have hq1 : (q : Int) < (n : Int) := by omega
          have ht1 : (t : Int) < (m : Int) := by omega
          go_wp2
          go_region_held3 (fun w' => w'.cell? ⟨w.heap.size, 0, none⟩ = some (.pointer (some ⟨x, 0, none⟩)) ∧ w'.cell? ⟨g9, o9 + t, none⟩ = some (.int .i64 id) ∧ w'.cell? ⟨g7, o7 + q * 2, none⟩ = some (.int .i64 g)) (go_keep)
            (first
              | (go_at_call 82
                 refine (HC.out _ ((Fr.refl No wr).drew)).mono ?_
                 rintro e w4 ⟨rfl, f4⟩
                 have F4 : Hid (Fr No wr w4) := (Fr.refl No wr).drew.trans f4
                 have cb4 := F4.out.cell cbi (fun h => h)
                 have e4 := F4.out.cell e1 (fun h => h)
                 have d4 := F4.out.cell d1i (fun h => h)
                 clear f4))
          all_goals
            by_cases hgg : s.groupOf id = g
            · have hb : (s.groupOf id == g) = true := by simp [hgg]
              have HI2 : Hid (inTo s HLs g (t + 1) = inTo s HLs g t + 1) := by rw [Hid, HIS.out, if_pos hgg]
              clear hgg
              go_wp2
              go_roundw
              case rel => exact ⟨t + 1, by omega, by go_num, by rw [HI2.out]; go_num, hfi.trans F4.out⟩
              case measure => simp [intOf]; omega
            · have hb : (s.groupOf id == g) = false := by simp [hgg]
              have HI2 : Hid (inTo s HLs g (t + 1) = inTo s HLs g t) := by rw [Hid, HIS.out, if_neg hgg]; rfl
              clear hgg
              go_wp2
              go_roundw
              case rel => exact ⟨t + 1, by omega, by go_num, by rw [HI2.out], hfi.trans F4.out⟩
              case measure => simp [intOf]; omega
        · have htt : t = m := by omega
          subst htt
          have d1i := hfi.cell d1 (fun h => h)
          have d2i := hfi.cell d2 (fun h => h)
          have hNe := HTT.out.1
          have hNp := HTT.out.2
          have HFI : Hid (Fr No w2 wr) := HFO.out.trans hfi
          have hN9 := inTo_le s HLs g t
          rw [HN.out.1] at hN9
          rw [hNe] at d2i hNp
          have HNe : Hid (N = (inTo s HLs g t : Int)) := hNe
          clear hNe HTT d1 d2
          generalize inTo s HLs g t = NN at *
          have hle : decide ((NN : Int) ≤ 0) = false := by simp; omega
          have hle2 : ¬ (NN : Int) ≤ 0 := by omega
          have hle3 : decide (NN ≤ 0) = false := by simp; omega
          have hle4 : decide (NN = 0) = false := by simp; omega
          have hle5 : decide ((NN : Int) = 0) = false := by simp; omega
          have hle6 : ¬ NN = 0 := by omega
          have hq1 : (q : Int) < (n : Int) := by omega
          have hwp : IntKind.i64.wrap (sumTo GL q + (NN : Int)) = sumTo GL q + (NN : Int) := wrap_i64 _ (by omega) (by omega)
          have HR : Hid (∀ m, Fr No w2 (wr.drewN m)) := fun m => HFI.out.drewN m
          rcases hprev with ⟨hr, hr0⟩ | ⟨r, g', hr1, hr, hcg, hgg⟩
          · go_wp2
            go_quiet (fail)
            go_wp2
            go_roundw
            case rel => exact ⟨q + 1, by omega, by go_num, by rw [HS1.out, HNe.out], HR.out _⟩
            case measure => simp [intOf]; omega
          · have hgg' : decide (g ≤ g') = false := by simp; omega
            have hqr : (q : Int) - 1 = (r : Int) := by omega
            have hcg := hfi.cell hcg (fun h => h)
            clear hr1
            go_wp2
            go_quiet (fail)
            go_wp2
            go_roundw
            case rel => exact ⟨q + 1, by omega, by go_num, by rw [HS1.out, HNe.out], HR.out _⟩
            case measure => simp [intOf]; omega
    · have hqn : q = n := by omega
      subst hqn
      have HSM : Hid (sumTo GL q = (m : Int)) := by rw [Hid, ← HN.out.2, HSUM.out, HN.out.1]
      rw [HSM.out]
      have HFW : Hid (Fr No w wr) := F2.trans hfr
      clear hc7 hc9 hfr
      go_wp2_with (go_at_call 79; refine (HA.out wr HFW.out).mono ?_; rintro e w5 ⟨v5, rfl, hv5, f5⟩
                   obtain ⟨a5, cap5, rfl, -⟩ := hv5
                   rw [List.length_map, HN.out.1])
      go_ret
      exact ⟨by simp, HFW.out.trans f5⟩
end Go.Proofs.Qxb6500357a
