import Derived.Test.Qxb6500357aStore5
namespace Go.Proofs.Qxb6500357a
open Go.RowKit Go.Tag
set_option linter.unusedVariables false
set_option linter.unusedSimpArgs false
set_option maxRecDepth 100000
attribute [local simp] str_size
attribute [local go_sem] str_size

theorem storeAt_turn {w w' : World} {F : Nat → Prop} {b : Nat} {s : St} {B : Int} {id g : Int} {t : List UInt8} {bd br bg : Nat} {p : Int → Nat} {d0 : Doc} (h : StoreAt w F b s bd br bg p) (hf : Fine s B) (hd : s.docs id = some d0)
    (hsz : w.heap.size ≤ w'.heap.size) (fr : Fr (fun k => k = bg ∨ k = br ∨ k = p id) w w')
    (hdoc : w'.heap[p id]? = some (docO id g t)) (h2 : MapFn w' bg kInt (fGroups (s.put id ⟨g, t⟩))) (h3 : MapFn w' br kInt (upd (fNum s.revs) id (some (.int .i64 (s.revs id + 1))))) :
    StoreAt w' (fun k => F k ∨ Since w w' k) b (s.put id ⟨g, t⟩) bd br bg p ∧ Fr F w w' := by
  obtain ⟨n1, n2, n3⟩ := h.ne
  obtain ⟨m1, m2, m3⟩ := h.ne_root
  obtain ⟨o1, o2, o3, o4, o5⟩ := h.own
  obtain ⟨r1, r2, r3⟩ := h.ne_doc hd
  have hl := h.lt
  have bne : b ≠ p id := by
    intro e
    have h1 := h.root
    rw [e, h.doc id d0 hd] at h1
    injection h1 with h1; injection h1 with h1 h2; injection h1 with h1; injection h1 with h1; cases h1
  refine ⟨⟨?_, ?_, ?_, ?_, ?_, h2, h.ne, ⟨.inl o1, .inl o2, .inl o3, .inl o4, ?_⟩⟩, ?_⟩
  · rw [fr.block b hl.1 (fun e => e.elim (fun e => m3 e.symm) (fun e => e.elim (fun e => m2 e.symm) (fun e => bne e)))]; exact h.root
  · rw [fDocs_put_old _ hd]
    exact h.docs.keep (fr.block bd hl.2.1 (fun e => e.elim (fun e => n2 e) (fun e => e.elim (fun e => n1 e) (fun e => r1 e))))
  · intro i d hi
    by_cases hii : i = id
    · subst hii; rw [put_docs] at hi; cases hi; exact hdoc
    · rw [put_other s _ hii] at hi
      obtain ⟨q1, q2, q3⟩ := h.ne_doc hi
      rw [fr.block _ (lt_of_heap (h.doc i d hi)) (fun e => e.elim (fun e => q3 e.symm) (fun e => e.elim (fun e => q2 e.symm) (fun e => hii (h.inj i id d d0 hi hd e))))]; exact h.doc i d hi
  · intro i j d1 d2 hi hj hij
    have hs : ∀ i d, (s.put id ⟨g, t⟩).docs i = some d → ∃ d', s.docs i = some d' := fun i d hi => by
      by_cases hii : i = id
      · subst hii; exact ⟨d0, hd⟩
      · rw [put_other s _ hii] at hi; exact ⟨d, hi⟩
    obtain ⟨d1', hi'⟩ := hs i d1 hi
    obtain ⟨d2', hj'⟩ := hs j d2 hj
    exact h.inj i j _ _ hi' hj' hij
  · rw [fRevs_put hf]; exact h3
  · intro i d hi
    by_cases hii : i = id
    · subst hii; exact .inl (o5 i d0 hd)
    · rw [put_other s _ hii] at hi; exact .inl (o5 i d hi)
  · exact fr.mono (fun k _ e => e.elim (fun e => e ▸ o4) (fun e => e.elim (fun e => e ▸ o3) (fun e => e ▸ o5 id d0 hd)))

theorem root_ne_doc {w : World} {F : Nat → Prop} {b : Nat} {s : St} {id : Int} {bd br bg : Nat} {p : Int → Nat} {d0 : Doc} (h : StoreAt w F b s bd br bg p) (hd : s.docs id = some d0) : b ≠ p id := by
  intro e
  have h1 := h.root
  rw [e, h.doc id d0 hd] at h1
  injection h1 with h1; injection h1 with h1 h2; injection h1 with h1; injection h1 with h1; cases h1
/-- Document q written through its pointer. -/
def docW (w : World) (q : Nat) (id g : Int) (t : List UInt8) : World := ((w.setCell ⟨q, 0, none⟩ (.int .i64 id)).setCell ⟨q, 1, none⟩ (.int .i64 g)).setCell ⟨q, 2, none⟩ (.string (str t))
theorem docW_turned {w : World} {q : Nat} {id g0 : Int} {t0 : List UInt8} (h : w.heap[q]? = some (docO id g0 t0)) (g : Int) (t : List UInt8) : (docW w q id g t).heap[q]? = some (docO id g t) ∧ Turned q w (docW w q id g t) := by
  have h1 := Go.Tag.heap_setCell_same h 0 (.int .i64 id)
  have h2 := Go.Tag.heap_setCell_same h1 1 (.int .i64 g)
  have h3 := Go.Tag.heap_setCell_same h2 2 (.string (str t))
  refine ⟨h3, ⟨(((Fr.refl (fun k => k = q) w).setCell (p := ⟨q, 0, none⟩) (.inr rfl) _).setCell (p := ⟨q, 1, none⟩) (.inr rfl) _).setCell (p := ⟨q, 2, none⟩) (.inr rfl) _, ?_⟩⟩
  simp [docW]
section
variable (b bd br bg : Nat) (p : Int → Nat) (F : Nat → Prop) (s : St) (B : Int) (id g : Int) (t : List UInt8) (w : World)
set_option maxHeartbeats 400000 in
theorem put_same (h : StoreAt w F b s bd br bg p) (hf : Fine s B) (hB : B < 9223372036854775807) (ht : t.length ≤ 12) (hid : 1 ≤ id ∧ id ≤ 9) (hg : 0 ≤ g ∧ g ≤ 2) (hx : textOK t = true) (hd : s.docs id = some ⟨g, t⟩) : Calls Try.prog 62 #[.pointer (some ⟨b, 0, none⟩), .int .i64 id, .int .i64 g, .string (str t)] w (PutPost w F b s id g t bd br bg) := by
  have hE : s.putErr id g t = 0 := putErr_0 ht hid hg hx (fun e => by rw [hd] at e; cases e.1)
  have hdd : decide ((12 : Int) < (t.length : Int)) = false := by simp; omega
  have hdi : decide (1 ≤ id ∧ id ≤ 9) = true := by simp; exact hid
  have h1 : decide (g < 0) = false := by simp; omega
  have h2 : decide ((2 : Int) < g) = false := by simp; omega
  have HT : Hid (t.length ≤ 1000) := by show t.length ≤ 1000; omega
  have hneq := sameDoc_true id g t
  have H0 := h.alloc (docO id g t)
  have hpd := H0.doc id _ hd
  have hpw := lt_of_heap (h.doc id _ hd)
  have r2 := (h.ne_doc hd).2.1
  have n3 := h.ne.2.2
  have hlk : (Instr.lookup 96 (.map (some bd)) (.int .i64 id) true).run Try.prog (w.alloc (docO id g t)) = .ok (.tuple #[.pointer (some ⟨p id, 0, none⟩), .bool true]) (w.alloc (docO id g t)) := by
    have := H0.docs.lookup_ok (P := Try.prog) (t := 96) keyInt Try.underlying96 (zeroPD _) id
    simp only [fDocs, hd, Option.map_some, Option.getD_some, Option.isSome_some] at this
    exact this
  have HN : ∀ n, StoreAt ((w.alloc (docO id g t)).drewN n) F b s bd br bg p := fun n => H0.keep fun _ _ => rfl
  have hl2 : ∀ n, (Instr.lookup 97 (.map (some br)) (.int .i64 id) false).run Try.prog ((w.alloc (docO id g t)).drewN n) = .ok (.int .i64 (s.revs id)) ((w.alloc (docO id g t)).drewN n) := fun n => by
    have := (HN n).revs.lookup_v (P := Try.prog) (t := 97) keyInt Try.underlying97 (zero3 _) id
    rw [fNum_getD] at this; exact this
  obtain ⟨W3, hW3⟩ := Classical.skolem.mp fun n => (HN n).revs.update' (P := Try.prog) (t := 97) keyInt Try.underlying97 id (.int .i64 (s.revs id + 1))
  have hu3 := fun n => (hW3 n).1
  have HS : Hid (∀ n, PutPost w F b s id g t bd br bg (.returned (.int .i64 0)) (W3 n)) := fun n => by
    obtain ⟨-, hM3, ht3⟩ := hW3 n
    have hh := storeAt_turn (g := g) (t := t) (w' := W3 n) h hf hd (by rw [ht3.size]; show _ ≤ (w.alloc (docO id g t)).heap.size; simp) ((((Fr.refl _ _).alloc _).drewN n).trans' ht3.fr (fun k _ e => .inr (.inl e))) (by rw [ht3.other (Ne.symm r2)]; exact hpd) (by rw [fGroups_put_same hid hd]; exact (HN n).groups.keep (ht3.other (Ne.symm n3))) hM3
    exact ⟨by rw [hE], ⟨_, by rw [putR_0 hE]; exact hh.1⟩, hh.2⟩
  have c0 : (w.alloc (docO id g t)).cell? ⟨b, 0, none⟩ = some (.map (some bd)) := by rw [cell_of_heap H0.root]; rfl
  have c2 : (w.alloc (docO id g t)).cell? ⟨b, 1, none⟩ = some (.map (some br)) := by rw [cell_of_heap H0.root]; rfl
  have k0 : w.cell? ⟨p id, 0, none⟩ = some (.int .i64 id) := by rw [cell_of_heap (h.doc id _ hd)]; rfl
  have k1 : w.cell? ⟨p id, 1, none⟩ = some (.int .i64 g) := by rw [cell_of_heap (h.doc id _ hd)]; rfl
  have k2 : w.cell? ⟨p id, 2, none⟩ = some (.string (str t)) := by rw [cell_of_heap (h.doc id _ hd)]; rfl
  have hr1 : 0 ≤ s.revs id := (hf.revs id).1
  have hr2 : s.revs id < 9223372036854775807 := by have := (hf.revs id).2; omega
  generalize s.revs id = rv at *
  simp only [kInt, docO] at hu3 hlk hl2 c0 c2
  generalize p id = q at *
  clear hid hg hd hE h H0 hW3 HN hf hB hpd
  have hequal := eqDoc
  go_enter Try.func62, Try.ntmps62
  go_wp2_with first
    | (go_at_call 87; refine (goodId_any _ _).mono ?_; rintro e w' ⟨rfl, rfl⟩)
    | (go_at_call 88; refine (textOK_any _ _ HT.out).mono ?_; rintro e w' ⟨rfl, rfl⟩)
    | (go_quiet (fail))
  go_ret
  exact HS.out _

set_option maxHeartbeats 400000 in
theorem put_changed (d0 : Doc) (h : StoreAt w F b s bd br bg p) (hf : Fine s B) (hB : B < 9223372036854775807) (ht : t.length ≤ 12) (hid : 1 ≤ id ∧ id ≤ 9) (hg : 0 ≤ g ∧ g ≤ 2) (hx : textOK t = true) (hd : s.docs id = some d0) (hne : d0 ≠ ⟨g, t⟩) : Calls Try.prog 62 #[.pointer (some ⟨b, 0, none⟩), .int .i64 id, .int .i64 g, .string (str t)] w (PutPost w F b s id g t bd br bg) := by
  have hE : s.putErr id g t = 0 := putErr_0 ht hid hg hx (fun e => by rw [hd] at e; cases e.1)
  have hdd : decide ((12 : Int) < (t.length : Int)) = false := by simp; omega
  have hdi : decide (1 ≤ id ∧ id ≤ 9) = true := by simp; exact hid
  have h1 : decide (g < 0) = false := by simp; omega
  have h2 : decide ((2 : Int) < g) = false := by simp; omega
  have hneq : sameDoc id d0.group d0.text id g t = false := by
    simp only [sameDoc, decide_eq_false_iff_not]
    rintro ⟨-, rfl, rfl⟩; exact hne rfl
  have HT : Hid (t.length ≤ 1000) := by show t.length ≤ 1000; omega
  have H0 := h.alloc (docO id g t)
  have hpd := H0.doc id _ hd
  have hpw := lt_of_heap (h.doc id _ hd)
  have hlk : (Instr.lookup 96 (.map (some bd)) (.int .i64 id) true).run Try.prog (w.alloc (docO id g t)) = .ok (.tuple #[.pointer (some ⟨p id, 0, none⟩), .bool true]) (w.alloc (docO id g t)) := by
    have := H0.docs.lookup_ok (P := Try.prog) (t := 96) keyInt Try.underlying96 (zeroPD _) id
    simp only [fDocs, hd, Option.map_some, Option.getD_some, Option.isSome_some] at this
    exact this
  have HN : ∀ n, StoreAt ((w.alloc (docO id g t)).drewN n) F b s bd br bg p := fun n => H0.keep fun _ _ => rfl
  have HL : Hid (∀ n, Calls Try.prog 89 #[.pointer (some ⟨b, 0, none⟩), .int .i64 d0.group] ((w.alloc (docO id g t)).drewN n) _) := fun n => leave_any b bd br bg (fGroups s) d0.group (s.cnt d0.group) ((w.alloc (docO id g t)).drewN n) (HN n).root (HN n).groups (fGroups_at hid hd) (by have := cnt_pos hid hd; omega) (by have := hf.cnt_le d0.group; omega)
  have c0 : (w.alloc (docO id g t)).cell? ⟨b, 0, none⟩ = some (.map (some bd)) := by rw [cell_of_heap H0.root]; rfl
  have k0 : w.cell? ⟨p id, 0, none⟩ = some (.int .i64 id) := by rw [cell_of_heap (h.doc id _ hd)]; rfl
  have k1 : w.cell? ⟨p id, 1, none⟩ = some (.int .i64 d0.group) := by rw [cell_of_heap (h.doc id _ hd)]; rfl
  have k2 : w.cell? ⟨p id, 2, none⟩ = some (.string (str d0.text)) := by rw [cell_of_heap (h.doc id _ hd)]; rfl
  have HA : Hid (∀ n w1, MapFn w1 bg kInt (upd (fGroups s) d0.group (decV (s.cnt d0.group))) → Turned bg ((w.alloc (docO id g t)).drewN n) w1 →
      ∃ w2 w4, (Instr.lookup 97 (.map (some bg)) (.int .i64 g) false).run Try.prog w1 = .ok (.int .i64 (cntLess s d0.group g)) w1 ∧ (Instr.mapUpdate 97 (.map (some bg)) (.int .i64 g) (.int .i64 (cntLess s d0.group g + 1))).run Try.prog w1 = .ok () w2 ∧
        w1.cell? ⟨b, 2, none⟩ = some (.map (some bg)) ∧ (docW w2 (p id) id g t).cell? ⟨b, 1, none⟩ = some (.map (some br)) ∧ w2.heap[w.heap.size]? = some (docO id g t) ∧ w2.heap[p id]? = some (docO id d0.group d0.text) ∧
        (Instr.lookup 97 (.map (some br)) (.int .i64 id) false).run Try.prog (docW w2 (p id) id g t) = .ok (.int .i64 (s.revs id)) (docW w2 (p id) id g t) ∧ (Instr.mapUpdate 97 (.map (some br)) (.int .i64 id) (.int .i64 (s.revs id + 1))).run Try.prog (docW w2 (p id) id g t) = .ok () w4 ∧
        PutPost w F b s id g t bd br bg (.returned (.int .i64 0)) w4) := by
    intro n w1 hm1 ht1
    have hm1' : MapFn w1 bg kInt (fGroups (s.del id)) := by rw [fGroups_del hid hd]; exact hm1
    have hl1 := hm1'.lookup_v (P := Try.prog) (t := 97) keyInt Try.underlying97 (zero3 _) g
    rw [cntLess_getD hid hd] at hl1
    obtain ⟨w2, hu2, hM2, ht2⟩ := hm1'.update' (P := Try.prog) (t := 97) keyInt Try.underlying97 g (.int .i64 (cntLess s d0.group g + 1))
    obtain ⟨n1, n2, n3⟩ := h.ne
    obtain ⟨m1, m2, m3⟩ := h.ne_root
    obtain ⟨r1, r2, r3⟩ := h.ne_doc hd
    have hlt := h.lt
    have hnew : w2.heap[w.heap.size]? = some (docO id g t) := by rw [ht2.other (by omega), ht1.other (by omega)]; exact heap_alloc_new _ _
    have hold : w2.heap[p id]? = some (docO id d0.group d0.text) := by rw [ht2.other (Ne.symm r3), ht1.other (Ne.symm r3)]; exact hpd
    obtain ⟨hdo, hT⟩ := docW_turned hold g t
    have hR2 := ((HN n).revs.keep ((ht2.other n3).trans (ht1.other n3))).keep (hT.other r2)
    have hl2 := hR2.lookup_v (P := Try.prog) (t := 97) keyInt Try.underlying97 (zero3 _) id
    rw [fNum_getD] at hl2
    obtain ⟨w4, hu4, hM4, ht4⟩ := hR2.update' (P := Try.prog) (t := 97) keyInt Try.underlying97 id (.int .i64 (s.revs id + 1))
    have hbp : b ≠ p id := root_ne_doc h hd
    refine ⟨w2, w4, hl1, hu2, ht1.cell (Ne.symm m3) (by rw [cell_of_heap (HN n).root]; rfl), hT.cell hbp (ht2.cell (Ne.symm m3) (ht1.cell (Ne.symm m3) (by rw [cell_of_heap (HN n).root]; rfl))), hnew, hold, hl2, hu4, ?_⟩
    have hs4 : w4.heap.size = w.heap.size + 1 := by rw [ht4.size, hT.size, ht2.size, ht1.size]; show (w.alloc (docO id g t)).heap.size = _; simp
    have fr : Fr (fun k => k = bg ∨ k = br ∨ k = p id) w w4 := (((((Fr.refl _ _).alloc _).drewN n).trans' (ht1.trans ht2).fr (fun k _ e => .inl e)).trans' hT.fr (fun k _ e => .inr (.inr e))).trans' ht4.fr (fun k _ e => .inr (.inl e))
    have hh := storeAt_turn (g := g) (t := t) (w' := w4) h hf hd (by omega) fr (by rw [ht4.other (Ne.symm r2)]; exact hdo) (by rw [fGroups_put_old hid hd]; exact (hM2.keep (hT.other r3)).keep (ht4.other (Ne.symm n3))) hM4
    exact ⟨by rw [hE], ⟨_, by rw [putR_0 hE]; exact hh.1⟩, hh.2⟩
  have hcl := cntLess_le s d0.group g
  have hcg := cntLess_ge s d0.group g
  have hr1 : 0 ≤ s.revs id := (hf.revs id).1
  have hr2 : s.revs id < 9223372036854775807 := by have := (hf.revs id).2; omega
  generalize cntLess s d0.group g = cl at *
  generalize s.revs id = rv at *
  generalize p id = q at *
  simp only [kInt, docO, docW] at hlk c0 HL HA
  clear hid hg hd hE h H0 HN hf hB hpd hne
  have hequal := eqDoc
  go_enter Try.func62, Try.ntmps62
  go_wp2_with first
    | (go_at_call 87; refine (goodId_any _ _).mono ?_; rintro e w' ⟨rfl, rfl⟩)
    | (go_at_call 88; refine (textOK_any _ _ HT.out).mono ?_; rintro e w' ⟨rfl, rfl⟩)
    | (go_quiet (fail))
    | (go_at_call 89; refine (HL.out _).mono ?_; rintro e w1 ⟨rfl, hm1, ht1⟩
       obtain ⟨w2, w4, hl1, hu2, c1, c2, b1, b2, hl3, hu3, HP⟩ := HA.out _ w1 hm1 ht1
       have HP : Hid _ := HP
       clear hm1 ht1
       have q0 := cell_of_heap b1 0
       have q1 := cell_of_heap b1 1
       have q2 := cell_of_heap b1 2
       have f0 := cell_of_heap b2 0
       have f1 := cell_of_heap b2 1
       have f2 := cell_of_heap b2 2
       have fz := frozen_of_heap b2
       clear b1 b2)
  go_ret
  exact HP.out
end
end Go.Proofs.Qxb6500357a
