import Derived.Test.Qxb6500357aStore3
import Derived.Test.Qxb6500357aInsPlain
import Derived.Test.Qxb6500357aSorts
import Derived.BigQuiet
import Derived.BigRegion
namespace Go.Proofs.Qxb6500357a
open Go.RowKit Go.Tag
set_option linter.unusedVariables false
set_option linter.unusedSimpArgs false
set_option maxRecDepth 100000
attribute [local simp] str_size
attribute [local go_sem] str_size

/-- A fresh list of the ints ks. -/
def IntsPost (w : World) (ks : List Int) (e : Ending) (w' : World) : Prop :=
  ∃ v, e = .returned v ∧ w'.ownsRow w.heap.size 3 1 v ks.length (ks.map (Value.int .i64)) ∧ Fr No w w' ∧ (ks = [] → v = .slice none 0 0)

abbrev GatherI (w : World) (f : Int → Option Value) (b r N : Nat) (v : Value) (A : List Int) (left : Int → Bool) (cnt : Nat) (wr : World) : Prop :=
  Gather w kInt (· < ·) f b r N 3 (Value.int .i64) v A left cnt wr
/-- The outer loop's state. -/
def IdsRel (w : World) (f : Int → Option Value) (b r N : Nat) (v : Value) (wr : World) : Prop := ∃ A left cnt, GatherI w f b r N v A left cnt wr ∧ (A = [] → v = .slice none 0 0)
/-- The inner loop's state. -/
def InsI (w2 : World) (base : Nat) (g cap n : Nat) (E : List Int) (k : Nat) (y : Int) (wr : World) : Prop :=
  Above (· < ·) E k y ∧ wr.ownsRow base 3 1 (.slice (some ⟨g, 0, none⟩) n cap) n ((layAt E k y).map (Value.int .i64)) ∧ Fr (fun k => k = g) w2 wr

theorem intlt_tr : ∀ a b c : Int, a < b → b < c → a < c := fun a b c h1 h2 => by omega

set_option maxHeartbeats 1000000 in
theorem ids_any (b bd br bg : Nat) (p : Int → Nat) (F : Nat → Prop) (s : St) (B : Int) (w : World) (h : StoreAt w F b s bd br bg p) (hg : Fine s B) :
    Calls Try.prog 85 #[.pointer (some ⟨b, 0, none⟩)] w (IntsPost w s.ids) := by
  have hc : w.cell? ⟨b, 0, none⟩ = some (.map (some bd)) := by rw [cell_of_heap h.root]; rfl
  have hbw := h.lt.1
  have hdw := h.lt.2.1
  obtain ⟨o, hrg, hR0⟩ := h.docs.range (P := Try.prog) (t := 96) keyInt Try.underlying96 (nodup_ids s) (fDocs_mem hg p)
  have hN : s.ids.length ≤ 6 := hg.size
  have HK : Hid (∀ k, k ∈ s.ids ↔ (fDocs s p k).isSome = true) := fDocs_mem hg p
  have HP0 : Hid (IdsRel w (fDocs s p) bd w.heap.size s.ids.length (.slice none 0 0) (w.alloc o)) :=
    ⟨[], _, _, ⟨hR0, List.Pairwise.nil, fun k => by cases h : fDocs s p k <;> simp [h], own_nil _ _ _ _, (Fr.refl _ _).alloc _, by simp, by simp⟩, fun _ => rfl⟩
  clear hR0 h hg
  generalize fDocs s p = f at *
  generalize hNN : s.ids.length = N at *
  go_enter Try.func85, Try.ntmps85
  go_wp2
  go_loopw [3] (fun v wr => IdsRel w f bd w.heap.size N v wr) (fun _ wr => toGo bd w.heap.size wr)
  case atStart => exact HP0.out
  case round =>
    obtain ⟨A, left, cnt, hG, hnil⟩ := hrel
    rcases hG.range.next (P := Try.prog) keyInt 0 with ⟨h0, hall, hnx⟩ | ⟨k, v, w1, hlk, hfk, hnx, hpos, hR1, hF1, hsz, hen⟩
    · have HF : Hid (IntsPost w s.ids (.returned u3) wr) := by
        have hA := hG.done (fun a h => by omega) (fun a b h h' => by omega) hall (ids_sorted s) HK.out
        subst hA
        exact ⟨u3, rfl, own_base hG.own (Nat.le_succ _), hG.fr, hnil⟩
      clear hG hall
      go_wp2
      go_ret
      exact HF.out
    · simp only [kInt] at hnx hen
      obtain ⟨i0, hi, hz0, hz1, hz2⟩ := info_parts info3
      have hnum := hG.num
      have hown : w1.ownsRow (w.heap.size + 1) 3 1 u3 A.length (A.map (Value.int .i64)) := own_fr hG.own hF1 (fun k hk e => by have := own_ge hG.own hk; omega)
      have hbig : w.heap.size + 1 ≤ w1.heap.size := by have := hG.big; omega
      have HG : Hid (GatherI w f bd w.heap.size N u3 A left cnt wr ∧ RangeFn w1 bd w.heap.size kInt f (fun j => left j && !decide (j = k)) (cnt - 1) ∧ Fr (fun i => i = w.heap.size) wr w1 ∧ left k = true ∧ f k = some v) := ⟨hG, hR1, hF1, hlk, hfk⟩
      have hm : A.length ≤ 6 := by omega
      clear hG hR1 hF1 hlk hfk hsz
      obtain ⟨m, hAm⟩ : ∃ m, A.length = m := ⟨_, rfl⟩
      rw [hAm] at hown hm hnum
      have HAm : Hid (A.length = m) := hAm
      clear hAm
      go_wp2_with (at_builtin; refine wpList_append_own_at _ rfl _ _ 47 rfl (w.heap.size + 1) 3 i0 (.int .i64 0) 1 8 Try.underlying47 hi hz0 hz1 hz2 rfl (by decide) u3 m _ rfl (hown.alloc _) ⟨w1.heap.size, 0, none⟩ 1 1 [.int .i64 k] rfl rfl (cell_one_new _ _ _) (by intro u hu; simp only [List.mem_singleton] at hu; subst hu; rfl) (by unfold maxLen; omega) (by omega) (by simp; omega) ?_
                   intro v' w2 hown' hgrow hnil' hloc
                   obtain ⟨g, cap, hv, -⟩ := own_at hown' (by omega)
                   subst hv)
      have HW : Hid (InsI w2 (w.heap.size + 1) g cap (m + 1) A m k w2 ∧ w.heap.size < g ∧ RangeFn w2 bd w.heap.size kInt f (fun j => left j && !decide (j = k)) (cnt - 1) ∧ Fr No w w2 ∧ w.heap.size + 1 ≤ w2.heap.size) := by
        have hm' := HAm.out
        obtain ⟨hg1, -⟩ := own_cells hown'
        obtain ⟨a1, a2, a3⟩ := gather_grow HG.out.1 hdw HG.out.2.1 HG.out.2.2.1 hgrow
        exact ⟨⟨by rw [← hm']; exact above_start A k, by rw [← hm', lay_end, List.map_append, hm']; exact hown', Fr.refl _ _⟩, by omega, a1, a2, a3⟩
      clear hown' hgrow hnil' hloc hown
      have hN1 : (0 : Int) ≤ m := by omega
      go_loopw [5] (fun i wr' => ∃ j : Nat, j ≤ m ∧ i = .int .i64 j ∧ InsI w2 (w.heap.size + 1) g cap (m + 1) A j k wr') (fun i _ => (intOf i).toNat)
      case atStart => exact ⟨m, Nat.le_refl _, by go_num, HW.out.1⟩
      case round =>
        obtain ⟨j, hjm, rfl, hI⟩ := hrel
        have hA := HAm.out
        obtain ⟨-, hgw, hcell, hfz, hset⟩ := own_cells hI.2.1
        have hcj : wr.cell? ⟨g, j, none⟩ = some (.int .i64 k) := hcell j _ (by rw [layAt_map, layAt_get _ _ _ (by simp; omega)])
        have hjd : (j : Int) < ((m + 1 : Nat) : Int) := by omega
        have fin : Hid (j = 0 ∨ (∃ (h : 0 < j) (h' : j - 1 < A.length), ¬ k < A[j - 1]) → ∀ n, IdsRel w f bd w.heap.size N (.slice (some ⟨g, 0, none⟩) (m + 1) cap) (wr.drewN n) ∧ toGo bd w.heap.size (wr.drewN n) < cnt) := by
          intro hend n
          have hkA : k ∉ A := fun hk => by have := ((HG.out.1.mem k).1 hk).2; rw [HG.out.2.2.2.1] at this; cases this
          have hL : (layAt A j k).length = m + 1 := by rw [layAt_len, HAm.out]
          have hs := gather_step (w3 := wr.drewN n) (S := fun i => i = g) (A' := layAt A j k) (v' := .slice (some ⟨g, 0, none⟩) (m + 1) cap) HG.out.1 hdw HG.out.2.2.2.1 HG.out.2.2.2.2 hpos HW.out.2.2.1 HW.out.2.2.2.1 HW.out.2.2.2.2 (hI.2.2.drewN n) (fun i e => by rw [e]; exact HW.out.2.1)
            (lay_sorted intlt_tr HG.out.1.sorted (by omega) hI.1 (or_to hend id fun ⟨a, b, c⟩ => ⟨a, b, by
              have : A[j - 1] ≠ k := fun e => hkA (e ▸ List.getElem_mem b)
              omega⟩)) (lay_mem A j k) (by rw [layAt_len]) (by rw [hL]; exact own_fr hI.2.1 ((Fr.refl No _).drewN n) (fun _ _ h => h))
          refine ⟨⟨_, _, _, hs.1, fun e => by rw [e] at hL; simp at hL⟩, ?_⟩
          have := hs.2; rw [HG.out.1.range.toGo] at this; exact this
        have htg := HG.out.1.range.toGo
        by_cases hj0 : j = 0
        · have H0 : Hid (j = 0) := hj0
          have hjk : decide (0 < j) = false := by simp; omega
          clear hj0 hcell hfz hset
          go_wp2
          go_quiet (fail)
          go_wp2
          go_roundw
          case rel => exact (fin.out (.inl H0.out) _).1
          case measure => rw [htg]; exact (fin.out (.inl H0.out) _).2
        · have hjk : decide (0 < j) = true := by simp; omega
          have hjp : 0 < j := by omega
          have hj1 : (1 : Int) ≤ (j : Int) := by omega
          have hk1 : j - 1 < A.length := by omega
          have hcz : wr.cell? ⟨g, j - 1, none⟩ = some (.int .i64 A[j - 1]) := hcell (j - 1) _ (by rw [layAt_map, layAt_lt _ _ _ (by simp; omega) (by omega)]; simp [hk1])
          have hjn : ((j : Int) - 1).toNat = j - 1 := by omega
          have hjn2 : (j : Int) - 1 < ((m + 1 : Nat) : Int) := by omega
          have hjn3 : (0 : Int) ≤ (j : Int) - 1 := by omega
          by_cases hyz : k < A[j - 1]
          · have hyd : decide (k < A[j - 1]) = true := by simp; omega
            have HI1 : Hid (∀ n, InsI w2 (w.heap.size + 1) g cap (m + 1) A (j - 1) k (((wr.drewN n).setCell ⟨g, j - 1, none⟩ (.int .i64 k)).setCell ⟨g, j, none⟩ (.int .i64 A[j - 1]))) := fun n => by
              refine ⟨above_down hI.1 (by omega) hk1 hyz, ?_, (((hI.2.2.drewN n).setCell (p := ⟨g, j - 1, none⟩) (.inr rfl) _).setCell (p := ⟨g, j, none⟩) (.inr rfl) _)⟩
              rw [← lay_swap A j k (by omega) hk1, List.map_set, List.map_set]
              exact (own_cells ((own_cells (own_fr hI.2.1 ((Fr.refl No _).drewN n) (fun _ _ h => h))).2.2.2.2 (j - 1) (.int .i64 k) (by omega))).2.2.2.2 j (.int .i64 A[j - 1]) (by omega)
            have hf1 := hfz j
            have hf2 := hfz (j - 1)
            generalize A[j - 1] = z at hcz hyz hyd HI1
            clear hcell hfz hset hyz fin
            go_wp2
            go_quiet (fail)
            go_wp2
            go_region
            go_wp2
            go_roundw
            case rel => exact ⟨j - 1, by omega, by go_num, HI1.out _⟩
            case measure => simp [intOf]; omega
          · have HZ : Hid (∃ (h : 0 < j) (h' : j - 1 < A.length), ¬ k < A[j - 1]) := ⟨by omega, hk1, hyz⟩
            have hyd : decide (k < A[j - 1]) = false := by simp; omega
            generalize A[j - 1] = z at hcz hyz hyd
            clear hcell hfz hset hyz
            go_wp2
            go_quiet (fail)
            go_wp2
            go_roundw
            case rel => exact (fin.out (.inr HZ.out) _).1
            case measure => rw [htg]; exact (fin.out (.inr HZ.out) _).2
end Go.Proofs.Qxb6500357a
