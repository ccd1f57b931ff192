/- The model's store: New, Reset, Get, Ids, InGroup, DropGroup. -/
import Derived.Test.Qxb6500357aGreatMSt
import Derived.Test.Qxb6500357aGreatIds
import Derived.Test.Qxb6500357aGreatState3
namespace Go.Tag
open Go.RowKit Go.Proofs.Qxb6500357aGreat
set_option linter.unusedVariables false
set_option linter.unusedSimpArgs false
theorem cell_three_new (w : World) (a b c : Value) (t : TypeId) : ∀ j u, [a, b, c][j]? = some u → (w.alloc (.cells #[a, b, c] t)).cell? ((⟨w.heap.size, 0, none⟩ : Addr).add j) = some u := by
  intro j u hj
  match j, hj with
  | 0, hj => simp at hj; subst hj; simp [Addr.add]
  | 1, hj => simp at hj; subst hj; simp [Addr.add]
  | 2, hj => simp at hj; subst hj; simp [Addr.add]
  | j + 3, hj => simp at hj
section
variable {w wr w' : World} {F : Nat → Prop} {b : Nat} {s : St} {D : Value} {a : Int}
theorem grow_ms (h : MSat wr F b s D a) {w0 base n size : Nat} {e : TypeId} {v : Value} {xs : List Value} (hF : ∀ k, F k → k < w0) (ho : wr.ownsRow base e size v n xs) (hb : w0 ≤ base) {o : Obj} (hg : (wr.alloc o).grownBy w' v.ownBlock) : MSat w' F b s D a :=
  h.fr (S := fun k => v.ownBlock = some k) (((Fr.refl (fun k => v.ownBlock = some k) wr).alloc o).grown hg (fun k hk => .inr hk)) (fun k hk e => by have := own_ge ho e; have := hF k hk; omega)
theorem grow_fr (f : Fr F w wr) {base n size : Nat} {e : TypeId} {v : Value} {xs : List Value} (ho : wr.ownsRow base e size v n xs) (hb : w.heap.size ≤ base) {o : Obj} (hg : (wr.alloc o).grownBy w' v.ownBlock) : Fr F w w' :=
  (f.alloc o).grown hg (fun k hk => .inl (by have := own_ge ho hk; omega))
theorem MSat.setD (h : MSat w F b s D a) {s' : St} {D' : Value} (hr : s'.revs = s.revs) (ho : w.ownsRow 0 88 3 D' s'.ids.length (docF s' s'.ids)) (hfd : ∀ k, D'.ownBlock = some k → F k ∧ k ≠ b) : MSat (w.setCell ⟨b, 0, none⟩ D') F b s' D' a := by
  have f : Fr (fun k => k = b) w (w.setCell ⟨b, 0, none⟩ D') := (Fr.refl (fun k => k = b) w).setCell (p := ⟨b, 0, none⟩) (.inr rfl) _
  refine ⟨(h.row.set (by omega) _).congr (fun i hi => ?_), h.fb, own_fr2 ho f (fun k hk e => (hfd k hk).2 e), hfd, fun k hk => Nat.lt_of_lt_of_le (h.lt k hk) f.size⟩
  unfold updN fM
  rw [hr]
  by_cases e : i = 0
  · subst e; rfl
  · rw [if_neg e, if_neg e, if_neg e]
theorem MSat.weak (h : MSat w F b s D a) {F' : Nat → Prop} (hF : ∀ k, F k → F' k) (hl : ∀ k, F' k → k < w.heap.size) : MSat w F' b s D a := ⟨h.row, hF _ h.fb, h.own, fun k hk => ⟨hF _ (h.fd k hk).1, (h.fd k hk).2⟩, hl⟩
/-- The new slice laid in. -/
theorem turn_set (h : MSat wr F b s D a) (f : Fr F w wr) (hF : ∀ k, F k → k < w.heap.size) {s' : St} {D' : Value} {base : Nat} (hb : w.heap.size ≤ base) (hr : s'.revs = s.revs) (ho : wr.ownsRow base 88 3 D' s'.ids.length (docF s' s'.ids)) :
    MS (wr.setCell ⟨b, 0, none⟩ D') (fun k => (F k ∨ w.heap.size ≤ k) ∧ k < (wr.setCell ⟨b, 0, none⟩ D').heap.size) b s' ∧ Fr F w (wr.setCell ⟨b, 0, none⟩ D') := by
  have hs : (wr.setCell ⟨b, 0, none⟩ D').heap.size = wr.heap.size := by simp
  rw [hs]
  have hbF := hF b h.fb
  refine ⟨⟨D', a, (h.weak (F' := fun k => (F k ∨ w.heap.size ≤ k) ∧ k < wr.heap.size) (fun k hk => ⟨.inl hk, h.lt k hk⟩) (fun k hk => hk.2)).setD hr (own_base ho (Nat.zero_le _)) (fun k hk => ?_)⟩, f.setCell (p := ⟨b, 0, none⟩) (.inr h.fb) _⟩
  have h1 := own_ge ho hk
  have h2 := (ho.lt k hk).2
  exact ⟨⟨.inr (by omega), h2⟩, by omega⟩
end
theorem doc_cells {w : World} {rb : Nat} {a b c : Value} (h : w.heap[rb]? = some (.cells #[a, b, c] 88)) (e0 e1 e2 : Value) :
    (((w.setCell ⟨rb, 0, none⟩ e0).setCell ⟨rb, 1, none⟩ e1).setCell ⟨rb, 2, none⟩ e2).cell? ⟨rb, 0, none⟩ = some e0 ∧
    (((w.setCell ⟨rb, 0, none⟩ e0).setCell ⟨rb, 1, none⟩ e1).setCell ⟨rb, 2, none⟩ e2).cell? ⟨rb, 1, none⟩ = some e1 ∧
    (((w.setCell ⟨rb, 0, none⟩ e0).setCell ⟨rb, 1, none⟩ e1).setCell ⟨rb, 2, none⟩ e2).cell? ⟨rb, 2, none⟩ = some e2 := by
  have h4 := heap_setCell_same (heap_setCell_same (heap_setCell_same h 0 e0) 1 e1) 2 e2
  refine ⟨?_, ?_, ?_⟩ <;> (rw [cell_of_heap h4]; rfl)
theorem atPos_there {s : St} {B : Int} (hf : Fine s B) {id : Int} {j : Nat} (h : AtPos s id j) : (∃ h : j < s.ids.length, s.ids[j] = id) ↔ (s.docs id).isSome = true := by
  rw [← mem_ids hf]
  constructor
  · rintro ⟨h1, h2⟩; rw [← h2]; exact List.getElem_mem _
  · intro hm
    rw [← List.take_append_drop j s.ids, List.mem_append] at hm
    rcases hm with hm | hm
    · have := h.lo id hm; omega
    · obtain ⟨k, hk, e⟩ := List.mem_iff_getElem.1 hm
      rw [List.getElem_drop] at e
      rw [List.length_drop] at hk
      have hj : j < s.ids.length := by omega
      refine ⟨hj, ?_⟩
      rcases Nat.eq_zero_or_pos k with h0 | h0
      · subst h0; simpa using e
      · have h1 := List.pairwise_iff_getElem.1 (ids_sorted s) j (j + k) hj (by omega) (by omega)
        have h2 := h.hi s.ids[j] (by rw [List.mem_iff_getElem]; exact ⟨0, by rw [List.length_drop]; omega, by rw [List.getElem_drop]; simp⟩)
        omega
end Go.Tag
namespace Go.Proofs.Qxb6500357aGreat
open Go.RowKit Go.Tag
set_option linter.unusedVariables false
set_option linter.unusedSimpArgs false
set_option maxRecDepth 100000
attribute [local simp] str_size
attribute [local go_sem] str_size
theorem info88 : (Tryz.prog.info? 88).map (fun i => (i.zero, i.size, i.bytes)) = some (some (.agg #[.int .i64 0, .int .i64 0, .string (str [])]), 3, 32) := by kernel_rfl
def MInts (w : World) (F : Nat → Prop) (b : Nat) (s : St) (L : List Int) (e : Ending) (w' : World) : Prop := ∃ v, e = .returned v ∧ w'.ownsRow w.heap.size 3 1 v L.length (L.map (Value.int .i64)) ∧ MS w' F b s ∧ Fr F w w' ∧ (L = [] → v = .slice none 0 0)

theorem mNew_any (w : World) : Calls Tryz.prog 49 #[] w fun e w' => ∃ b, e = .returned (.pointer (some ⟨b, 0, none⟩)) ∧ MS w' (fun k => k = b) b St.new ∧ w.heap.size ≤ b ∧ Fr No w w' := by
  go_enter Tryz.func49, Tryz.ntmps49
  go_wp2
  go_ret
  refine ⟨w.heap.size, rfl, ⟨.slice none 0 0, 0, ⟨⟨_, heap_alloc_new w _, rfl, fun i hi => ?_⟩, rfl, own_nil _ _ _ _, fun k hk => by simp [Value.ownBlock] at hk, fun k hk => by simp; omega⟩⟩, Nat.le_refl _, (Fr.refl No w).alloc _⟩
  rcases i with _ | _ | _ | _ | _ | _ | _ | _ | _ | _ | _ | _ | i <;> first | rfl | omega

theorem get_end {w w1 : World} {F : Nat → Prop} {b : Nat} {s : St} {id er : Int} {dv : Value} (hM : MS w1 F b s) (hFr : Fr F w w1) (hF : ∀ k, F k → k < w.heap.size) (he : s.getErr id = er) (hd : s.getDoc id = dv) (v0 v1 v2 : Value) :
    MAsk w F b s (.tuple #[s.getDoc id, .int .i64 (s.getErr id)]) (.returned (.tuple #[dv, .int .i64 er])) (((w1.setCell ⟨w.heap.size, 0, none⟩ v0).setCell ⟨w.heap.size, 1, none⟩ v1).setCell ⟨w.heap.size, 2, none⟩ v2) := by
  have f : Fr (fun k => k = w.heap.size) w1 (((w1.setCell ⟨w.heap.size, 0, none⟩ v0).setCell ⟨w.heap.size, 1, none⟩ v1).setCell ⟨w.heap.size, 2, none⟩ v2) :=
    (((Fr.refl (fun k => k = w.heap.size) w1).setCell (p := ⟨w.heap.size, 0, none⟩) (.inr rfl) v0).setCell (p := ⟨w.heap.size, 1, none⟩) (.inr rfl) v1).setCell (p := ⟨w.heap.size, 2, none⟩) (.inr rfl) v2
  exact ⟨by rw [he, hd], hM.fr f (fun k hk e => by have := hF k hk; omega), hFr.trans' f (fun i hi e => by omega)⟩
section
variable (b : Nat) (F : Nat → Prop) (s : St) (B : Int) (w : World)
theorem mReset_any (h : MS w F b s) : Calls Tryz.prog 98 #[.pointer (some ⟨b, 0, none⟩)] w (MTurn w F b s.reset (.int .i64 s.ids.length)) := by
  obtain ⟨D, a, h⟩ := h
  obtain ⟨c0, c11, fz, hbl⟩ := h.cells
  have HZ : Hid (MTurn w F b s.reset (.int .i64 s.ids.length) (.returned (.int .i64 s.ids.length)) (w.setCell ⟨b, 0, none⟩ (.slice none 0 0))) := by
    have := turn_set h (Fr.refl F w) h.lt (Nat.le_refl _) (s' := s.reset) (D' := .slice none 0 0) rfl (by
      have e : s.reset.ids = [] := by unfold St.ids St.reset; simp
      rw [e]; exact own_nil _ _ _ _)
    exact ⟨rfl, this.1, this.2⟩
  obtain ⟨a0, cap, rfl, -, -⟩ := h.docs
  clear h
  go_enter Tryz.func98, Tryz.ntmps98
  go_wp2
  go_ret
  exact HZ.out

set_option maxHeartbeats 1000000 in
theorem mGet_any (id : Int) (h : MS w F b s) (hf : Fine s B) : Calls Tryz.prog 94 #[.pointer (some ⟨b, 0, none⟩), .int .i64 id] w (MAsk w F b s (.tuple #[s.getDoc id, .int .i64 (s.getErr id)])) := by
  obtain ⟨D, a, h⟩ := h
  obtain ⟨c0, c11, fz, hbl⟩ := h.cells
  have HW : Hid (∀ v, MSat ((w.setCell ⟨b, 11, none⟩ (.int .i64 v)).alloc (.cells #[.int .i64 0, .int .i64 0, .string (str [])] 88)) F b s D v ∧ Fr F w ((w.setCell ⟨b, 11, none⟩ (.int .i64 v)).alloc (.cells #[.int .i64 0, .int .i64 0, .string (str [])] 88))) := fun v => by
    have h1 := (h.ask v).fr ((Fr.refl No _).alloc (.cells #[.int .i64 0, .int .i64 0, .string (str [])] 88)) (fun _ _ e => e)
    exact ⟨h1, (ask_fr h _).alloc _⟩
  have HB : Hid (∀ v, ((w.setCell ⟨b, 11, none⟩ (.int .i64 v)).alloc (.cells #[.int .i64 0, .int .i64 0, .string (str [])] 88)).heap[w.heap.size]? = some (.cells #[.int .i64 0, .int .i64 0, .string (str [])] 88)) := fun v => by
    have := heap_alloc_new (w.setCell ⟨b, 11, none⟩ (.int .i64 v)) (.cells #[.int .i64 0, .int .i64 0, .string (str [])] 88)
    simp only [World.size_setCell] at this; exact this
  have HF : Hid (∀ k, F k → k < w.heap.size) := h.lt
  clear h
  by_cases hid : 1 ≤ id ∧ id ≤ 9
  · have d1 : decide (id < 1) = false := by simp; omega
    have d2 : decide (9 < id) = false := by simp; omega
    have d3 : ¬ id < 1 := by omega
    have d4 : ¬ 9 < id := by omega
    have hsz := hf.size
    cases hd : s.docs id with
    | none =>
      have HE : Hid (s.getErr id = 6 ∧ s.getDoc id = zeroDoc) := ⟨getErr_none hid hd, getDoc_none hd⟩
      have HT : Hid (∀ j, AtPos s id j → decide (∃ h : j < s.ids.length, s.ids[j] = id) = false) := fun j hj => by
        rw [decide_eq_false_iff_not, atPos_there hf hj, hd]; simp
      clear hd hid
      go_enter Tryz.func94, Tryz.ntmps94
      go_wp2_with (go_at_call 102; refine (mAt_any b F s _ id ⟨_, _, (HW.out _).1⟩ (by omega)).mono ?_
                   rintro e w1 ⟨j, rfl, hP, f1⟩
                   rw [HT.out j hP]
                   have hbk := f1.heap (HB.out _) (fun h => h)
                   have HM : Hid (MS w1 F b s ∧ Fr F w w1) := ⟨⟨_, _, (HW.out _).1.fr f1 (fun _ _ h => h)⟩, (HW.out _).2.trans f1.any⟩
                   have q0 := cell_of_heap hbk 0
                   have q1 := cell_of_heap hbk 1
                   have q2 := cell_of_heap hbk 2
                   simp only [List.getElem?_toArray, List.getElem?_cons_zero, List.getElem?_cons_succ] at q0 q1 q2
                   have fz1 := frozen_of_heap hbk
                   have hdc := doc_cells hbk
                   clear f1 hP hbk)
      refine bodyPost_ret (v := .tuple #[zeroDoc, .int .i64 6]) (by simp [results, Tryz.results94, go_sem, zeroDoc, hdc] <;> rfl) rfl ?_
      exact get_end HM.out.1 HM.out.2 HF.out HE.out.1 HE.out.2 _ _ _
    | some d =>
      have HE : Hid (s.getErr id = 0 ∧ s.getDoc id = docV id d) := ⟨getErr_some hid hd, getDoc_some hd⟩
      have HT : Hid (∀ j, AtPos s id j → ∃ h : j < s.ids.length, s.ids[j] = id) := fun j hj => by
        rw [atPos_there hf hj, hd]; rfl
      have HDD : Hid (s.groupOf id = d.group ∧ s.textOf id = d.text) := ⟨groupOf_some hd, textOf_some hd⟩
      clear hd hid
      obtain ⟨n, hn⟩ : ∃ n, s.ids.length = n := ⟨_, rfl⟩
      obtain ⟨a0, cap, hD, -, -⟩ := (HW.out 0).1.docs
      rw [hn] at hD
      subst hD
      have HN : Hid (s.ids.length = n) := hn
      clear hn
      go_enter Tryz.func94, Tryz.ntmps94
      go_wp2_with (go_at_call 102; refine (mAt_any b F s _ id ⟨_, _, (HW.out _).1⟩ (by omega)).mono ?_
                   rintro e w1 ⟨j, rfl, hP, f1⟩
                   obtain ⟨hjl, hje⟩ := HT.out j hP
                   rw [decide_eq_true (p := ∃ h : j < s.ids.length, s.ids[j] = id) ⟨hjl, hje⟩]
                   have hbk := f1.heap (HB.out _) (fun h => h)
                   have hM1 := (HW.out _).1.fr f1 (fun _ _ h => h)
                   have HM : Hid (MS w1 F b s ∧ Fr F w w1) := ⟨⟨_, _, hM1⟩, (HW.out _).2.trans f1.any⟩
                   obtain ⟨m0, -, -, mbl⟩ := hM1.cells
                   obtain ⟨a1, cap1, hD1, -, hdd⟩ := hM1.docs
                   obtain ⟨g, hg1, -, hFg, k0, k1, k2⟩ := hdd j hjl
                   simp only [Value.slice.injEq] at hD1
                   obtain ⟨rfl, -, -⟩ := hD1
                   subst hg1
                   rw [hje] at k0 k1 k2
                   rw [HDD.out.1] at k1
                   rw [HDD.out.2] at k2
                   have hgl : g < w1.heap.size := hM1.lt g hFg
                   have hgne : g ≠ w.heap.size := by have := HF.out g hFg; omega
                   have hgne2 : w.heap.size ≠ g := by have := HF.out g hFg; omega
                   have hjn : (j : Int) < (n : Int) := by rw [HN.out] at hjl; omega
                   have q0 := cell_of_heap hbk 0
                   have q1 := cell_of_heap hbk 1
                   have q2 := cell_of_heap hbk 2
                   simp only [List.getElem?_toArray, List.getElem?_cons_zero, List.getElem?_cons_succ] at q0 q1 q2
                   have fz1 := frozen_of_heap hbk
                   have hdc := doc_cells hbk
                   clear f1 hP hbk hM1 hdd hje hjl)
      refine bodyPost_ret (v := .tuple #[docV id d, .int .i64 0]) (by simp [results, Tryz.results94, go_sem, docV, hdc] <;> rfl) rfl ?_
      exact get_end HM.out.1 HM.out.2 HF.out HE.out.1 HE.out.2 _ _ _
  · have hdn : s.docs id = none := by
      cases hd : s.docs id with
      | none => rfl
      | some d => exact absurd (hf.dom id d hd).1 hid
    have HE : Hid (s.getErr id = 2 ∧ s.getDoc id = zeroDoc) := ⟨getErr_bad hid, getDoc_none hdn⟩
    have hdd : (decide (id < 1) = true ∧ id < 1) ∨ (decide (id < 1) = false ∧ ¬ id < 1 ∧ decide (9 < id) = true ∧ 9 < id) := by
      by_cases h1 : id < 1
      · exact .inl ⟨by simpa using h1, h1⟩
      · exact .inr ⟨by simpa using h1, h1, by simp; omega, by omega⟩
    clear hid hdn
    rcases hdd with ⟨d1, d2⟩ | ⟨d1, d2, d3, d4⟩
    all_goals
      go_enter Tryz.func94, Tryz.ntmps94
      go_wp2
      refine bodyPost_ret (v := .tuple #[zeroDoc, .int .i64 2]) (by simp [results, Tryz.results94, go_sem, zeroDoc] <;> rfl) rfl ?_
      exact ⟨by rw [HE.out.1, HE.out.2], ⟨_, _, (HW.out _).1⟩, (HW.out _).2⟩
end
end Go.Proofs.Qxb6500357aGreat
