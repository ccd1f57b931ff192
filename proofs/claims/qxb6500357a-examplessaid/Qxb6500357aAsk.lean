import Derived.Test.Qxb6500357aIxPut
import Derived.Test.Qxb6500357aIds
import Derived.Test.Qxb6500357aWords
namespace Go.Proofs.Qxb6500357a
open Go.RowKit Go.Tag
set_option linter.unusedVariables false
set_option linter.unusedSimpArgs false
set_option maxRecDepth 100000
attribute [local simp] str_size
attribute [local go_sem] str_size

theorem fld0 (w : World) (m : Option Nat) (n : Int) : (Instr.field 124 (.agg #[.map m, .int .i64 n]) 0).run Try.prog w = .ok (.map m) w := by kernel_rfl
theorem fld1 (w : World) (m : Option Nat) (n : Int) : (Instr.field 124 (.agg #[.map m, .int .i64 n]) 1).run Try.prog w = .ok (.int .i64 n) w := by kernel_rfl
/-- The range's state where the keys are appended as they come. -/
def DocsRel (w : World) (f : Int → Option Value) (b r N : Nat) (v : Value) (wr : World) : Prop := ∃ A left cnt, Gather w kInt (· ≠ ·) f b r N 3 (Value.int .i64) v A left cnt wr ∧ (A = [] → v = .slice none 0 0)

theorem perm_sorted_int {A l : List Int} {ks : List Int} (hp : l.Perm A) (hs : l.Pairwise (· ≤ ·)) (hn : A.Pairwise (· ≠ ·)) (hm : ∀ k, k ∈ A ↔ k ∈ ks) (hk : ks.Pairwise (· < ·)) : l = ks := by
  have hln : l.Pairwise (· ≠ ·) := hp.symm.pairwise hn (fun {a b} h e => h e.symm)
  refine sorted_unique (lt := (· < ·)) (fun a h => by omega) (fun a b h h' => by omega) l ks ?_ hk (fun x => by rw [hp.mem_iff, hm])
  exact pw_to (hs.and hln) (fun h => by have := h.1; have := h.2; omega)
theorem perm_sorted_word {A l : List Word} {ks : List Word} (hp : l.Perm A) (hs : l.Pairwise (· ≤ ·)) (hn : A.Pairwise (· ≠ ·)) (hm : ∀ k, k ∈ A ↔ k ∈ ks) (hk : ks.Pairwise (· < ·)) : l = ks := by
  have hln : l.Pairwise (· ≠ ·) := hp.symm.pairwise hn (fun {a b} h e => h e.symm)
  refine sorted_unique (lt := (· < ·)) wlt_irr wlt_as l ks ?_ hk (fun x => by rw [hp.mem_iff, hm])
  exact pw_to (hs.and hln) (fun {a b} h => wlt_of (fun h' => h.1 h') (fun e => h.2 e.symm))

section
variable (x : Nat) (F : Nat → Prop) (s : St) (B : Int) (u : Word) (w : World)

theorem docs_long (h : Both w F x s) (hf : Fine s B) (hu : 12 < u.length) : Calls Try.prog 60 #[.pointer (some ⟨x, 0, none⟩), .string (str u)] w (IntsPost w (s.holders u)) := by
  have HE : Hid (s.holders u = []) := holders_long hf hu
  have hd : decide ((12 : Int) < (u.length : Int)) = true := by simp; omega
  have hfl := fld0
  go_enter Try.func60, Try.ntmps60
  go_wp2
  go_ret
  show IntsPost w (s.holders u) (.returned (.slice none 0 0)) w
  rw [HE.out]
  exact ⟨_, rfl, own_nil _ _ _ _, Fr.refl _ _, fun _ => rfl⟩

set_option maxHeartbeats 1000000 in
theorem docs_none (h : Both w F x s) (hf : Fine s B) (hu : u.length ≤ 12) (hc : cntW (hasOf s) u = 0) : Calls Try.prog 60 #[.pointer (some ⟨x, 0, none⟩), .string (str u)] w (IntsPost w (s.holders u)) := by
  obtain ⟨b, bd, br, bg, p, bi, bb, q, Fs, Fi, hb, hF⟩ := h
  have HE : Hid (s.holders u = []) := List.eq_nil_of_length_eq_zero hc
  have hd : decide ((12 : Int) < (u.length : Int)) = false := by simp; omega
  have hr1 : w.cell? ⟨x, 1, none⟩ = some (.map (some bi)) := by rw [cell_of_heap hb.ix.root]; rfl
  have hlk : (Instr.lookup 100 (.map (some bi)) (.string (str u)) false).run Try.prog w = .ok (.agg #[.map none, .int .i64 0]) w := by
    have := hb.ix.inv.lookup_v (P := Try.prog) (t := 100) keyStr Try.underlying100 (zero124 _) u
    rw [fInv_getD0 _ _ _ hc] at this; exact this
  have hrg := run_range_nilMap (P := Try.prog) w 112 3 4 Try.underlying112
  have hnx : ∀ ty, (Instr.next (.pointer (some ⟨w.heap.size, 0, none⟩)) false ty).run Try.prog (w.alloc (.mapIter none 0 #[] 0)) = _ := fun ty => run_next_nilMap w ty 0 0 #[]
  have HC : Hid (∀ w', Calls Try.prog 86 #[.slice none 0 0] w' (SortedI w' w'.heap.size (.slice none 0 0) [])) := fun w' => sortInts_any (.slice none 0 0) [] w'.heap.size w' (own_nil _ _ _ _) (by simp)
  clear hb hF hc
  have hfl := fld0
  go_enter Try.func60, Try.ntmps60
  go_wp2
  refine wp_loop_rounds 1 ?_
  rw [rounds_succ]
  go_wp2_with (go_at_call 86; refine (HC.out _).mono ?_; rintro e w1 ⟨rfl, l', hp, hs, ho, hfr⟩)
  go_ret
  show IntsPost w (s.holders u) (.returned (.slice none 0 0)) w1
  rw [HE.out]
  exact ⟨_, rfl, own_nil _ _ _ _, ((Fr.refl No w).alloc _).trans' hfr (fun k hk e => by simp [Value.ownBlock] at e), fun _ => rfl⟩

set_option maxHeartbeats 1000000 in
theorem docs_some (h : Both w F x s) (hf : Fine s B) (hu : u.length ≤ 12) (hc : cntW (hasOf s) u ≠ 0) : Calls Try.prog 60 #[.pointer (some ⟨x, 0, none⟩), .string (str u)] w (IntsPost w (s.holders u)) := by
  obtain ⟨b, bd, br, bg, p, bi, bb, q, Fs, Fi, hb, hF⟩ := h
  have hd : decide ((12 : Int) < (u.length : Int)) = false := by simp; omega
  have hr1 : w.cell? ⟨x, 1, none⟩ = some (.map (some bi)) := by rw [cell_of_heap hb.ix.root]; rfl
  have hlk : (Instr.lookup 100 (.map (some bi)) (.string (str u)) false).run Try.prog w = .ok (.agg #[.map (some (q u)), .int .i64 (cntW (hasOf s) u)]) w := by
    have := hb.ix.inv.lookup_v (P := Try.prog) (t := 100) keyStr Try.underlying100 (zero124 _) u
    rw [fInv_getD _ _ _ hc] at this; exact this
  have hset := hb.ix.set u hc
  have hqw := hset.lt
  have hHs := holders_sorted s u
  have hnd : (s.holders u).Nodup := pw_to hHs (fun h e => by omega)
  obtain ⟨o, hrg, hR0⟩ := hset.range (P := Try.prog) (t := 112) keyInt Try.underlying112 hnd (setB_mem hf u)
  have hN : (s.holders u).length ≤ 9 := List.length_filter_le _ idsAll
  have HK : Hid ((∀ k, k ∈ s.holders u ↔ (setB (hasOf s u) k).isSome = true) ∧ (s.holders u).Pairwise (· < ·)) := ⟨setB_mem hf u, hHs⟩
  have HP0 : Hid (DocsRel w (setB (hasOf s u)) (q u) w.heap.size (s.holders u).length (.slice none 0 0) (w.alloc o)) :=
    ⟨[], _, _, ⟨hR0, List.Pairwise.nil, fun k => by cases h : setB (hasOf s u) k <;> simp [h], own_nil _ _ _ _, (Fr.refl _ _).alloc _, by simp, by simp⟩, fun _ => rfl⟩
  clear hR0 hb hF hset hHs hnd hc
  generalize q u = qb at *
  generalize cntW (hasOf s) u = cw at *
  generalize setB (hasOf s u) = f at *
  generalize s.holders u = ks at *
  generalize hNN : ks.length = N at *
  have hfl := fld0
  go_enter Try.func60, Try.ntmps60
  go_wp2
  go_loopw [5] (fun v wr => DocsRel w f qb w.heap.size N v wr) (fun _ wr => toGo qb w.heap.size wr)
  case atStart => exact HP0.out
  case round =>
    obtain ⟨A, left, cnt, hG, hnil⟩ := hrel
    rcases hG.range.next (P := Try.prog) keyInt 0 with ⟨h0, hall, hnx⟩ | ⟨k, v, w1, hlk, hfk, hnx, hpos, hR1, hF1, hsz, hen⟩
    · have hnum := hG.num
      have HC : Hid (Calls Try.prog 86 #[u5] wr (SortedI wr (w.heap.size + 1) u5 A)) := sortInts_any u5 A (w.heap.size + 1) wr hG.own (by omega)
      have HF : Hid (∀ w2 (l' : List Int), l'.Perm A → l'.Pairwise (· ≤ ·) → w2.ownsRow (w.heap.size + 1) 3 1 u5 l'.length (l'.map (Value.int .i64)) → Fr (fun k => u5.ownBlock = some k) wr w2 → IntsPost w ks (.returned u5) w2) := by
        intro w2 l' hp hs ho hfr
        have e := perm_sorted_int hp hs hG.sorted (fun k => by rw [hG.mem, HK.out.1, hall]; simp) HK.out.2
        subst e
        refine ⟨u5, rfl, own_base ho (Nat.le_succ _), hG.fr.trans' hfr (fun i hi e => by have := own_ge hG.own e; omega), fun e => hnil ?_⟩
        have := hp.length_eq; rw [e] at this; exact List.eq_nil_of_length_eq_zero this.symm
      clear hG hall
      go_wp2_with (go_at_call 86; refine HC.out.mono ?_; rintro e w2 ⟨rfl, l', hp, hs, ho, hfr⟩)
      go_ret
      exact HF.out w2 l' hp hs ho hfr
    · simp only [kInt] at hnx hen
      obtain ⟨i0, hi, hz0, hz1, hz2⟩ := info_parts info3
      have hnum := hG.num
      have hown : w1.ownsRow (w.heap.size + 1) 3 1 u5 A.length (A.map (Value.int .i64)) := own_fr hG.own hF1 (fun k hk e => by have := own_ge hG.own hk; omega)
      have hbig : w.heap.size + 1 ≤ w1.heap.size := by have := hG.big; omega
      have hkA : k ∉ A := fun hk => by have := ((hG.mem k).1 hk).2; rw [hlk] at this; cases this
      have HG : Hid (∀ o v' w2, (w1.alloc o).grownBy w2 u5.ownBlock → w2.ownsRow (w.heap.size + 1) 3 1 v' (A.length + 1) (A.map (Value.int .i64) ++ [.int .i64 k]) → DocsRel w f qb w.heap.size N v' w2 ∧ toGo qb w.heap.size w2 < toGo qb w.heap.size wr) := by
        intro o v' w2 hg ho
        obtain ⟨a1, a2, a3⟩ := gather_grow hG hqw hR1 hF1 hg
        have hs := gather_step (w3 := w2) (S := No) (A' := A ++ [k]) (v' := v') hG hqw hlk hfk hpos a1 a2 a3 (Fr.refl _ _) (fun i e => e.elim)
          (by rw [List.pairwise_append]; exact ⟨hG.sorted, by simp, fun a ha b hb => by simp only [List.mem_singleton] at hb; subst hb; rintro rfl; exact hkA ha⟩)
          (fun j => by simp [or_comm]) (by simp) (by simp only [List.length_append, List.length_singleton, List.map_append, List.map_cons, List.map_nil]; exact ho)
        exact ⟨⟨_, _, _, hs.1, fun e => by simp at e⟩, hs.2⟩
      have hm : A.length ≤ 9 := by omega
      clear hG hR1 hF1 hlk hfk hsz hkA
      obtain ⟨m, hAm⟩ : ∃ m, A.length = m := ⟨_, rfl⟩
      rw [hAm] at hown hm hnum HG
      clear hAm
      go_wp2_with (at_builtin; refine wpList_append_own_at _ rfl _ _ 47 rfl (w.heap.size + 1) 3 i0 (.int .i64 0) 1 8 Try.underlying47 hi hz0 hz1 hz2 rfl (by decide) u5 m _ rfl (hown.alloc _) ⟨w1.heap.size, 0, none⟩ 1 1 [.int .i64 k] rfl rfl (cell_one_new _ _ _) (by intro u hu; simp only [List.mem_singleton] at hu; subst hu; rfl) (by unfold maxLen; omega) (by omega) (by simp; omega) ?_
                   intro v' w2 hown' hgrow hnil' hloc)
      go_roundw
      case rel => exact (HG.out _ v' w2 hgrow hown').1
      case measure => exact (HG.out _ v' w2 hgrow hown').2
theorem docs_any (h : Both w F x s) (hf : Fine s B) : Calls Try.prog 60 #[.pointer (some ⟨x, 0, none⟩), .string (str u)] w (IntsPost w (s.holders u)) := by
  by_cases hu : 12 < u.length
  · exact docs_long x F s B u w h hf hu
  · by_cases hc : cntW (hasOf s) u = 0
    · exact docs_none x F s B u w h hf (by omega) hc
    · exact docs_some x F s B u w h hf (by omega) hc
end
end Go.Proofs.Qxb6500357a
