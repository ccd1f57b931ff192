import Derived.Test.Qxb6500357aGreatAsk
namespace Go.Proofs.Qxb6500357aGreat
open Go.RowKit Go.Tag
variable {st0 : Nat}
set_option linter.unusedVariables false
set_option linter.unusedSimpArgs false
set_option maxRecDepth 100000
attribute [local simp] str_size
attribute [local go_sem] str_size

/-- A fresh list of the words ks. -/
def StrsPost (w : World) (ks : List Word) (e : Ending) (w' : World) : Prop :=
  ∃ v, e = .returned v ∧ w'.ownsRow w.heap.size 9 1 v ks.length (ks.map vStr) ∧ Fr No w w' ∧ (ks = [] → v = .slice none 0 0)
def WordsRel (w : World) (f : Word → Option Value) (b r N : Nat) (v : Value) (wr : World) : Prop := ∃ A left cnt, Gather w kStr (· ≠ ·) f b r N 9 vStr v A left cnt wr ∧ (A = [] → v = .slice none 0 0)

section
variable (x : Nat) (F : Nat → Prop) (s : St) (B : Int) (w : World)
set_option maxHeartbeats 1000000 in
theorem words_any (h : Both st0 w F x s) (hf : Fine s B) : Calls Tryz.prog 44 #[.pointer (some ⟨x, 0, none⟩)] w (StrsPost w s.words) := by
  obtain ⟨b, bd, br, bg, p, bi, bb, q, Fs, Fi, hb, hF⟩ := h
  have hr1 : w.cell? ⟨x, 1, none⟩ = some (.map (some bi)) := by rw [cell_of_heap hb.ix.root]; rfl
  have hiw := hb.ix.inv.lt
  obtain ⟨o, hrg, hR0⟩ := hb.ix.inv.range (P := Tryz.prog) (t := 71) keyStr Tryz.underlying71 (words_nodup s) (fInv_mem s q)
  have hN : s.words.length ≤ 117 := words_len hf
  have HK : Hid ((∀ k, k ∈ s.words ↔ (fInv (hasOf s) q k).isSome = true) ∧ s.words.Pairwise (· < ·)) := ⟨fInv_mem s q, words_sorted s⟩
  have HP0 : Hid (WordsRel w (fInv (hasOf s) q) bi w.heap.size s.words.length (.slice none 0 0) (w.alloc o)) :=
    ⟨[], _, _, ⟨hR0, List.Pairwise.nil, fun k => by cases h : fInv (hasOf s) q k <;> simp [h], own_nil _ _ _ _, (Fr.refl _ _).alloc _, by simp, by simp⟩, fun _ => rfl⟩
  clear hR0 hb hF
  generalize fInv (hasOf s) q = f at *
  generalize s.words = ks at *
  generalize hNN : ks.length = N at *
  go_enter Tryz.func44, Tryz.ntmps44
  go_wp2
  go_loopw [3] (fun v wr => WordsRel w f bi w.heap.size N v wr) (fun _ wr => toGo bi w.heap.size wr)
  case atStart => exact HP0.out
  case round =>
    obtain ⟨A, left, cnt, hG, hnil⟩ := hrel
    rcases hG.range.next (P := Tryz.prog) keyStr 0 with ⟨h0, hall, hnx⟩ | ⟨k, v, w1, hlk, hfk, hnx, hpos, hR1, hF1, hsz, hen⟩
    · have hnum := hG.num
      have HC : Hid (Calls Tryz.prog 79 #[u3] wr (SortedS wr (w.heap.size + 1) u3 A)) := sortStrs_any u3 A (w.heap.size + 1) wr hG.own (by omega)
      have HF : Hid (∀ w2 (l' : List Word), l'.Perm A → l'.Pairwise (· ≤ ·) → w2.ownsRow (w.heap.size + 1) 9 1 u3 l'.length (l'.map (vStr)) → Fr (fun k => u3.ownBlock = some k) wr w2 → StrsPost w ks (.returned u3) w2) := by
        intro w2 l' hp hs ho hfr
        have e := perm_sorted_word hp hs hG.sorted (fun k => by rw [hG.mem, HK.out.1, hall]; simp) HK.out.2
        subst e
        refine ⟨u3, rfl, own_base ho (Nat.le_succ _), hG.fr.trans' hfr (fun i hi e => by have := own_ge hG.own e; omega), fun e => hnil ?_⟩
        have := hp.length_eq; rw [e] at this; exact List.eq_nil_of_length_eq_zero this.symm
      clear hG hall
      go_wp2_with (go_at_call 79; refine HC.out.mono ?_; rintro e w2 ⟨rfl, l', hp, hs, ho, hfr⟩)
      go_ret
      exact HF.out w2 l' hp hs ho hfr
    · simp only [kStr] at hnx hen
      obtain ⟨i0, hi, hz0, hz1, hz2⟩ := info_parts info9
      have hnum := hG.num
      have hown : w1.ownsRow (w.heap.size + 1) 9 1 u3 A.length (A.map (vStr)) := own_fr hG.own hF1 (fun k hk e => by have := own_ge hG.own hk; omega)
      have hbig : w.heap.size + 1 ≤ w1.heap.size := by have := hG.big; omega
      have hkA : k ∉ A := fun hk => by have := ((hG.mem k).1 hk).2; rw [hlk] at this; cases this
      have HG : Hid (∀ o v' w2, (w1.alloc o).grownBy w2 u3.ownBlock → w2.ownsRow (w.heap.size + 1) 9 1 v' (A.length + 1) (A.map (vStr) ++ [vStr k]) → WordsRel w f bi w.heap.size N v' w2 ∧ toGo bi w.heap.size w2 < toGo bi w.heap.size wr) := by
        intro o v' w2 hg ho
        obtain ⟨a1, a2, a3⟩ := gather_grow hG hiw hR1 hF1 hg
        have hs := gather_step (w3 := w2) (S := No) (A' := A ++ [k]) (v' := v') hG hiw hlk hfk hpos a1 a2 a3 (Fr.refl _ _) (fun i e => e.elim)
          (by rw [List.pairwise_append]; exact ⟨hG.sorted, by simp, fun a ha b hb => by simp only [List.mem_singleton] at hb; subst hb; rintro rfl; exact hkA ha⟩)
          (fun j => by simp [or_comm]) (by simp) (by simp only [List.length_append, List.length_singleton, List.map_append, List.map_cons, List.map_nil]; exact ho)
        exact ⟨⟨_, _, _, hs.1, fun e => by simp at e⟩, hs.2⟩
      have hm : A.length ≤ 117 := by omega
      clear hG hR1 hF1 hlk hfk hsz hkA
      obtain ⟨m, hAm⟩ : ∃ m, A.length = m := ⟨_, rfl⟩
      rw [hAm] at hown hm hnum HG
      clear hAm
      go_wp2_with (at_builtin; refine wpList_append_own_at _ rfl _ _ 63 rfl (w.heap.size + 1) 9 i0 (.string ⟨#[]⟩) 1 16 Tryz.underlying63 hi hz0 hz1 hz2 rfl (by decide) u3 m _ rfl (hown.alloc _) ⟨w1.heap.size, 0, none⟩ 1 1 [.string (str k)] rfl rfl (cell_one_new _ _ _) (by intro u hu; simp only [List.mem_singleton] at hu; subst hu; rfl) (by unfold maxLen; omega) (by omega) (by simp; omega) ?_
                   intro v' w2 hown' hgrow hnil' hloc)
      go_roundw
      case rel => exact (HG.out _ v' w2 hgrow hown').1
      case measure => exact (HG.out _ v' w2 hgrow hown').2

theorem freq_any (u : Word) (h : Both st0 w F x s) (hf : Fine s B) : Calls Tryz.prog 60 #[.pointer (some ⟨x, 0, none⟩), .string (str u)] w fun e w' => e = .returned (.int .i64 (cntW (hasOf s) u)) ∧ w' = w := by
  obtain ⟨b, bd, br, bg, p, bi, bb, q, Fs, Fi, hb, hF⟩ := h
  have hr1 : w.cell? ⟨x, 1, none⟩ = some (.map (some bi)) := by rw [cell_of_heap hb.ix.root]; rfl
  have hfl := fld1
  by_cases hu : 12 < u.length
  · have HE : Hid ((cntW (hasOf s) u : Int) = 0) := by
      have := holders_long hf hu
      have h2 := holders_len s u
      show (cntW (hasOf s) u : Int) = 0
      rw [← h2, this]; rfl
    have hd : decide ((12 : Int) < (u.length : Int)) = true := by simp; omega
    clear hb hF
    go_enter Tryz.func60, Tryz.ntmps60
    go_wp2
    go_ret
    exact ⟨by rw [HE.out]; rfl, rfl⟩
  · have hd : decide ((12 : Int) < (u.length : Int)) = false := by simp; omega
    have hlk : ∃ m, (Instr.lookup 71 (.map (some bi)) (.string (str u)) false).run Tryz.prog w = .ok (.agg #[.map m, .int .i64 (cntW (hasOf s) u)]) w := by
      have := hb.ix.inv.lookup_v (P := Tryz.prog) (t := 71) keyStr Tryz.underlying71 (zero124 _) u
      by_cases hc : cntW (hasOf s) u = 0
      · rw [fInv_getD0 _ _ _ hc] at this; rw [hc]; exact ⟨_, this⟩
      · rw [fInv_getD _ _ _ hc] at this; exact ⟨_, this⟩
    obtain ⟨m, hlk⟩ := hlk
    clear hb hF
    go_enter Tryz.func60, Tryz.ntmps60
    go_wp2
    go_ret
    exact ⟨rfl, rfl⟩

theorem len_any (h : Both st0 w F x s) (hf : Fine s B) : Calls Tryz.prog 63 #[.pointer (some ⟨x, 0, none⟩)] w fun e w' => e = .returned (.int .i64 (s.ids.length : Int)) ∧ w' = w := by
  obtain ⟨b, bd, br, bg, p, bi, bb, q, Fs, Fi, hb, hF⟩ := h
  have hr1 : w.cell? ⟨x, 0, none⟩ = some (.pointer (some ⟨b, 0, none⟩)) := by rw [cell_of_heap hb.ix.root]; rfl
  have HC : Hid (Calls Tryz.prog 87 #[.pointer (some ⟨b, 0, none⟩)] w fun e w' => e = .returned (.int .i64 (s.ids.length : Int)) ∧ w' = w) := storeLen_any b bd br bg p Fs s B w hb.st hf
  clear hb hF
  go_enter Tryz.func63, Tryz.ntmps63
  go_wp2_with (go_at_call 87; refine HC.out.mono ?_; rintro e w' ⟨rfl, rfl⟩)
  go_ret
  exact ⟨rfl, rfl⟩

set_option maxHeartbeats 400000 in
theorem group_any (id : Int) (h : Both st0 w F x s) (hf : Fine s B) : Calls Tryz.prog 58 #[.pointer (some ⟨x, 0, none⟩), .int .i64 id] w fun e w' => e = .returned (.tuple #[.int .i64 (s.groupOf id), .int .i64 (s.getErr id)]) ∧ Fr No w w' := by
  obtain ⟨b, bd, br, bg, p, bi, bb, q, Fs, Fi, hb, hF⟩ := h
  have hr1 : w.cell? ⟨x, 0, none⟩ = some (.pointer (some ⟨b, 0, none⟩)) := by rw [cell_of_heap hb.ix.root]; rfl
  have hgd : ∃ gi gt, s.getDoc id = .agg #[.int .i64 gi, .int .i64 (s.groupOf id), .string (str gt)] := by
    cases hd : s.docs id with
    | none => exact ⟨0, [], by rw [getDoc_none hd]; unfold St.groupOf; rw [hd]; rfl⟩
    | some d => exact ⟨id, d.text, by rw [getDoc_some hd, groupOf_some hd]; rfl⟩
  obtain ⟨gi, gt, hgd⟩ := hgd
  have HG : Hid (Calls Tryz.prog 66 #[.pointer (some ⟨b, 0, none⟩), .int .i64 id] w fun e w' => e = .returned (.tuple #[.agg #[.int .i64 gi, .int .i64 (s.groupOf id), .string (str gt)], .int .i64 (s.getErr id)]) ∧ Fr No w w') :=
    (get_any b bd br bg p Fs s B id w hb.st hf).mono fun e w' ⟨h1, h2⟩ => ⟨by rw [h1, hgd], h2⟩
  clear hb hF hgd
  go_enter Tryz.func58, Tryz.ntmps58
  go_wp2_with (go_at_call 66; refine HG.out.mono ?_; rintro e w1 ⟨rfl, f1⟩)
  refine bodyPost_ret (v := .tuple #[.int .i64 (s.groupOf id), .int .i64 (s.getErr id)]) (by simp [results, Tryz.results58, go_sem]) rfl ⟨rfl, f1.alloc _⟩
end
end Go.Proofs.Qxb6500357aGreat
