import Derived.Test.Qxb6500357aIxPut
namespace Go.Proofs.Qxb6500357a
open Go.RowKit Go.Tag
set_option linter.unusedVariables false
set_option linter.unusedSimpArgs false
set_option maxRecDepth 100000
attribute [local simp] str_size
attribute [local go_sem] str_size

theorem getDoc_agg (s : St) (id : Int) : ∃ gi gg gt, s.getDoc id = .agg #[.int .i64 gi, .int .i64 gg, .string (str gt)] := by
  cases hd : s.docs id with
  | none => exact ⟨0, 0, [], by rw [getDoc_none hd]; rfl⟩
  | some d => exact ⟨id, d.group, d.text, by rw [getDoc_some hd]; rfl⟩

section
variable (x : Nat) (F : Nat → Prop) (s : St) (B : Int) (id g : Int) (t : List UInt8) (w : World)

theorem ixPut_long (h : Both w F x s) (ht : 12 < t.length) : Calls Try.prog 31 #[.pointer (some ⟨x, 0, none⟩), .int .i64 id, .int .i64 g, .string (str t)] w (TurnPost w F x (s.putErr id g t) (s.putR id g t)) := by
  have hE : s.putErr id g t = 1 := by unfold St.putErr; rw [if_pos ht]
  have HZ : Hid (TurnPost w F x (s.putErr id g t) (s.putR id g t) (.returned (.int .i64 1)) w) := by
    have : s.putR id g t = s := by unfold St.putR; rw [if_neg (by rw [hE]; decide)]
    rw [this, hE]; exact turn_keep h (Fr.refl _ _)
  have hd : decide ((12 : Int) < (t.length : Int)) = true := by simp; omega
  clear hE
  have hequal := eqDoc
  go_enter Try.func31, Try.ntmps31
  go_wp2
  go_ret
  exact HZ.out

set_option maxHeartbeats 1000000 in
theorem ixPut_bad (h : Both w F x s) (hf : Fine s B) (hB : B < 1000000000000000000) (ht : t.length ≤ 12) (hE : s.putErr id g t ≠ 0) : Calls Try.prog 31 #[.pointer (some ⟨x, 0, none⟩), .int .i64 id, .int .i64 g, .string (str t)] w (TurnPost w F x (s.putErr id g t) (s.putR id g t)) := by
  obtain ⟨b, bd, br, bg, p, bi, bb, q, Fs, Fi, hb, hF⟩ := h
  have hr0 : w.cell? ⟨x, 0, none⟩ = some (.pointer (some ⟨b, 0, none⟩)) := by rw [cell_of_heap hb.ix.root]; rfl
  have hxw := hb.ix.lt.1
  have hd : decide ((12 : Int) < (t.length : Int)) = false := by simp; omega
  obtain ⟨gi, gg, gt, hgd⟩ := getDoc_agg s id
  have HG : Hid (Calls Try.prog 61 #[.pointer (some ⟨b, 0, none⟩), .int .i64 id] w fun e w' => e = .returned (.tuple #[.agg #[.int .i64 gi, .int .i64 gg, .string (str gt)], .int .i64 (s.getErr id)]) ∧ Fr No w w') :=
    (get_any b bd br bg p Fs s B id w hb.st hf).mono fun e w' ⟨h1, h2⟩ => ⟨by rw [h1, hgd], h2⟩
  have HD : Hid (∀ w', Fr No w w' → Calls Try.prog 62 #[.pointer (some ⟨b, 0, none⟩), .int .i64 id, .int .i64 g, .string (str t)] w' (PutPost w' Fs b s id g t bd br bg)) := fun w' hw => storePut_any b bd br bg p Fs s B id g t w' (hb.st.fr hw (fun _ _ h => h)) hf hB
  have HF : Hid (∀ w1 w3, Fr No w w1 → (∃ p', StoreAt w3 (fun k => Fs k ∨ Since w1 w3 k) b (s.putR id g t) bd br bg p') → Fr Fs w1 w3 → TurnPost w F x (s.putErr id g t) (s.putR id g t) (.returned (.int .i64 (s.putErr id g t))) w3) := by
    rintro w1 w3 f1 ⟨p', h3⟩ f3
    have e : s.putR id g t = s := by unfold St.putR; rw [if_neg hE]
    rw [e] at h3 ⊢
    obtain ⟨a1, a2, a3, a4, a5⟩ := both_put hb f1 h3 f3
    refine ⟨rfl, ⟨b, bd, br, bg, p', bi, bb, q, _, Fi, ⟨h3, a1, a3, a4, fun k hk => Nat.lt_of_lt_of_le (hb.li k hk) a2.size⟩, ?_⟩, a2.mono (fun k _ hk => hF k (.inl hk))⟩
    rintro k (hk | hk)
    · exact or_to (a5 k hk) (fun h => hF k (.inl h)) (fun h => h)
    · exact .inl (hF k (.inr hk))
  have hne : (s.putErr id g t != 0) = true := by simpa using hE
  clear hb hE hF hgd hf
  have hequal := eqDoc
  go_enter Try.func31, Try.ntmps31
  go_wp2_with first
    | (go_at_call 61; refine HG.out.mono ?_; rintro e w1 ⟨rfl, f1⟩
       have hr1 := frNo_cell f1 hr0
       have hx1 : x < w1.heap.size := Nat.lt_of_lt_of_le hxw f1.size)
    | (go_at_call 62; refine (HD.out _ (f1.alloc _)).mono ?_; rintro e w3 ⟨rfl, h3, f3⟩
       have HZ : Hid (TurnPost w F x (s.putErr id g t) (s.putR id g t) (.returned (.int .i64 (s.putErr id g t))) w3) := HF.out _ w3 (f1.alloc _) h3 f3
       clear h3)
  go_ret
  exact HZ.out

set_option maxHeartbeats 1000000 in
theorem ixPut_good (h : Both w F x s) (hf : Fine s B) (hB : B < 1000000000000000000) (ht : t.length ≤ 12) (hE : s.putErr id g t = 0) : Calls Try.prog 31 #[.pointer (some ⟨x, 0, none⟩), .int .i64 id, .int .i64 g, .string (str t)] w (TurnPost w F x (s.putErr id g t) (s.putR id g t)) := by
  have hid : 1 ≤ id ∧ id ≤ 9 := by
    unfold St.putErr at hE; rw [if_neg (by omega)] at hE
    by_cases h2 : ¬ (1 ≤ id ∧ id ≤ 9)
    · rw [if_pos h2] at hE; cases hE
    · omega
  obtain ⟨b, bd, br, bg, p, bi, bb, q, Fs, Fi, hb, hF⟩ := h
  have hr0 : w.cell? ⟨x, 0, none⟩ = some (.pointer (some ⟨b, 0, none⟩)) := by rw [cell_of_heap hb.ix.root]; rfl
  have hxw := hb.ix.lt.1
  have hd12 : decide ((12 : Int) < (t.length : Int)) = false := by simp; omega
  have HD : Hid (∀ w', Fr No w w' → Calls Try.prog 62 #[.pointer (some ⟨b, 0, none⟩), .int .i64 id, .int .i64 g, .string (str t)] w' fun e w'' => e = .returned (.int .i64 0) ∧ (∃ p', StoreAt w'' (fun k => Fs k ∨ Since w' w'' k) b (s.put id ⟨g, t⟩) bd br bg p') ∧ Fr Fs w' w'') := fun w' hw =>
    (storePut_any b bd br bg p Fs s B id g t w' (hb.st.fr hw (fun _ _ h => h)) hf hB).mono fun e w'' ⟨h1, h2, h3⟩ => ⟨by rw [h1, hE], by rw [putR_0 hE] at h2; exact h2, h3⟩
  have HIX : Hid (∀ w3, Fr Fs w w3 → IndexAt w3 Fi x b bi bb (hasOf s) s.groupOf q) := fun w3 f => hb.ix.fr f (fun k hk e => hb.dis k e hk)
  have HL : Hid (∀ k, w.heap.size ≤ k → ¬ Fs k) := fun k hk e => by have := hb.ls k e; omega
  -- the end: the index has turned from w3 on
  have HF : Hid (∀ w1 w3 w6 Fi', Fr No w w1 → (∃ p', StoreAt w3 (fun k => Fs k ∨ Since w1 w3 k) b (s.put id ⟨g, t⟩) bd br bg p') → Fr Fs w1 w3 → (∃ q, IndexAt w6 Fi' x b bi bb (hasOf (s.put id ⟨g, t⟩)) (s.put id ⟨g, t⟩).groupOf q) → (∀ k, Fi' k → Fi k ∨ Since w3 w6 k) → Fr Fi w3 w6 →
      TurnPost w F x (s.putErr id g t) (s.putR id g t) (.returned (.int .i64 0)) w6) := by
    rintro w1 w3 w6 Fi' f1 ⟨p', h3⟩ f3 ⟨q', h6⟩ hFi' f6
    obtain ⟨a1, a2, a3, a4, a5⟩ := both_put hb f1 h3 f3
    rw [hE, putR_0 hE]
    refine ⟨rfl, ⟨b, bd, br, bg, p', bi, bb, q', _, Fi', ⟨h3.fr f6 a3, h6, ?_, ?_, ?_⟩, ?_⟩, ?_⟩
    · intro k hk e
      rcases hFi' k e with e | e
      · exact a3 k hk e
      · have := a4 k hk; have := e.1; omega
    · intro k hk; exact Nat.lt_of_lt_of_le (a4 k hk) f6.size
    · intro k e
      rcases hFi' k e with e | e
      · have := hb.li k e; have := a2.size; have := f6.size; omega
      · exact e.2
    · rintro k (hk | hk)
      · rcases a5 k hk with h | h
        · exact .inl (hF k (.inl h))
        · right; have := f6.size; exact ⟨h.1, by have := h.2; omega⟩
      · rcases hFi' k hk with e | e
        · exact .inl (hF k (.inr e))
        · right; have := a2.size; have := e.1; exact ⟨by omega, e.2⟩
    · exact (a2.mono (fun k _ hk => hF k (.inl hk))).trans' f6 (fun k _ hk => hF k (.inr hk))
  have gput : ∀ i, i ≠ id → (s.put id ⟨g, t⟩).groupOf i = s.groupOf i := fun i hi => by rw [groupOf_put, if_neg hi]
  have gput' : (s.put id ⟨g, t⟩).groupOf id = g := by rw [groupOf_put, if_pos rfl]
  have HLI : Hid (∀ k, w.heap.size ≤ k → ¬ Fi k) := fun k hk e => by have := hb.li k e; omega
  cases hd : s.docs id with
  | none =>
    have hE1 : (s.getErr id == 0) = false := by rw [getErr_none hid hd]; rfl
    have HG : Hid (Calls Try.prog 61 #[.pointer (some ⟨b, 0, none⟩), .int .i64 id] w fun e w' => e = .returned (.tuple #[.agg #[.int .i64 0, .int .i64 0, .string (str [])], .int .i64 (s.getErr id)]) ∧ Fr No w w') :=
      (get_any b bd br bg p Fs s B id w hb.st hf).mono fun e w' ⟨h1, h2⟩ => ⟨by rw [h1, getDoc_none hd]; rfl, h2⟩
    have HA : Hid (∀ w', IndexAt w' Fi x b bi bb (hasOf s) s.groupOf q → Calls Try.prog 64 #[.pointer (some ⟨x, 0, none⟩), .agg #[.int .i64 id, .int .i64 g, .string (str t)]] w' fun e w'' => e = .returned (.tuple #[]) ∧ (∃ q, IndexAt w'' (fun k => Fi k ∨ Since w' w'' k) x b bi bb (hasOf (s.put id ⟨g, t⟩)) (s.put id ⟨g, t⟩).groupOf q) ∧ Fr Fi w' w'') := fun w' hw => by
      have hw' := hw.regrp (grp' := (s.put id ⟨g, t⟩).groupOf) (fun u i hu => (gput i (fun e => by subst e; rw [hasOf_none hd] at hu; cases hu)).symm)
      have := add_any x b bi bb Fi (hasOf s) (s.put id ⟨g, t⟩).groupOf q id t w' hw' hid (fun u => hasOf_none hd u) ht
      rw [gput'] at this
      refine this.mono fun e w'' ⟨h1, h2, h3⟩ => ⟨h1, ?_, h3⟩
      rw [← hasOf_put_new ⟨g, t⟩ hd]; exact h2
    clear hb hE hF hd hf gput gput' hid
    have hequal := eqDoc
    go_enter Try.func31, Try.ntmps31
    go_wp2_with first
      | (go_at_call 61; refine HG.out.mono ?_; rintro e w1 ⟨rfl, f1⟩
         have hr1 := frNo_cell f1 hr0
         have hx1 : x < w1.heap.size := Nat.lt_of_lt_of_le hxw f1.size)
      | (go_at_call 62; refine (HD.out _ (f1.alloc _)).mono ?_; rintro e w3 ⟨rfl, h3, f3⟩
         have f03 : Fr Fs w w3 := (f1.any.alloc _).trans f3
         have HS : Hid _ := And.intro h3 f3
         have hxi := fun o => (HIX.out w3 f03).fr ((Fr.refl No w3).alloc o) (fun _ _ h => h)
         have HXI : Hid (∀ o, IndexAt (w3.alloc o) Fi x b bi bb (hasOf s) s.groupOf q) := hxi
         clear hxi h3 f3 f03)
      | (go_at_call 64; refine (HA.out _ (HXI.out _)).mono ?_; rintro e w6 ⟨rfl, h6, f6⟩)
    go_ret
    exact HF.out _ w3 w6 _ (f1.alloc _) HS.out.1 HS.out.2 h6 (fun k hk => hk.imp_right (fun e => ⟨by have := e.1; simp only [World.size_alloc] at this; omega, e.2⟩)) (((Fr.refl _ _).alloc _).trans f6)
  | some d =>
    have hdm := hf.dom id d hd
    have HG : Hid (Calls Try.prog 61 #[.pointer (some ⟨b, 0, none⟩), .int .i64 id] w fun e w' => e = .returned (.tuple #[.agg #[.int .i64 id, .int .i64 d.group, .string (str d.text)], .int .i64 0]) ∧ Fr No w w') :=
      (get_any b bd br bg p Fs s B id w hb.st hf).mono fun e w' ⟨h1, h2⟩ => ⟨by rw [h1, getDoc_some hd, getErr_some hid hd]; rfl, h2⟩
    by_cases hdd : d = ⟨g, t⟩
    · subst hdd
      have hsd := sameDoc_true id g t
      have HFS : Hid (∀ w1 w3, Fr No w w1 → (∃ p', StoreAt w3 (fun k => Fs k ∨ Since w1 w3 k) b (s.put id ⟨g, t⟩) bd br bg p') → Fr Fs w1 w3 → ∀ o, TurnPost w F x (s.putErr id g t) (s.putR id g t) (.returned (.int .i64 0)) (w3.alloc o)) := by
        intro w1 w3 f1 h3 f3 o
        refine HF.out w1 w3 (w3.alloc o) Fi f1 h3 f3 ⟨q, ?_⟩ (fun k hk => .inl hk) (((Fr.refl _ _).alloc _))
        rw [hasOf_put_same hd, groupOf_put_same hd]
        exact (HIX.out w3 (f1.any.trans f3)).fr ((Fr.refl No _).alloc o) (fun _ _ h => h)
      simp only [] at HG
      clear hb hE hF hd hf gput gput' hid hdm
      have hequal := eqDoc
      go_enter Try.func31, Try.ntmps31
      go_wp2_with first
        | (go_at_call 61; refine HG.out.mono ?_; rintro e w1 ⟨rfl, f1⟩
           have hr1 := frNo_cell f1 hr0
           have hx1 : x < w1.heap.size := Nat.lt_of_lt_of_le hxw f1.size)
        | (go_at_call 62; refine (HD.out _ (f1.alloc _)).mono ?_; rintro e w3 ⟨rfl, h3, f3⟩
           have hb1 : w3.heap[w1.heap.size]? = _ := f3.heap (heap_alloc_new w1 _) (HL.out _ f1.size)
           have k0 := cell_of_heap hb1 0
           have k1 := cell_of_heap hb1 1
           have k2 := cell_of_heap hb1 2
           have hb2 := lt_of_heap hb1
           have HZ : Hid (∀ o, TurnPost w F x (s.putErr id g t) (s.putR id g t) (.returned (.int .i64 0)) (w3.alloc o)) := fun o => HFS.out _ w3 (f1.alloc _) h3 f3 o
           clear hb1 h3 f3)
      go_ret
      exact HZ.out _
    · have hsd : sameDoc id d.group d.text id g t = false := by
        simp only [sameDoc, decide_eq_false_iff_not]
        rintro ⟨-, rfl, rfl⟩; exact hdd rfl
      have HR : Hid (∀ w', IndexAt w' Fi x b bi bb (hasOf s) s.groupOf q → Calls Try.prog 63 #[.pointer (some ⟨x, 0, none⟩), .agg #[.int .i64 id, .int .i64 d.group, .string (str d.text)]] w' fun e w'' => e = .returned (.tuple #[]) ∧ (∃ q, IndexAt w'' (fun k => Fi k ∨ Since w' w'' k) x b bi bb (hasOf (s.del id)) s.groupOf q) ∧ Fr Fi w' w'') := fun w' hw => by
        have := remove_any x b bi bb Fi (hasOf s) s.groupOf q id d.text w' hw hid (fun u hu => by rw [hasOf_some hd]; simpa using hu) hdm.2.2.1
        rw [groupOf_some hd] at this
        refine this.mono fun e w'' ⟨h1, h2, h3⟩ => ⟨h1, ?_, h3⟩
        rw [← hasOf_del hd]; exact h2
      have HA : Hid (∀ w' Fi' q', IndexAt w' Fi' x b bi bb (hasOf (s.del id)) s.groupOf q' → Calls Try.prog 64 #[.pointer (some ⟨x, 0, none⟩), .agg #[.int .i64 id, .int .i64 g, .string (str t)]] w' fun e w'' => e = .returned (.tuple #[]) ∧ (∃ q, IndexAt w'' (fun k => Fi' k ∨ Since w' w'' k) x b bi bb (hasOf (s.put id ⟨g, t⟩)) (s.put id ⟨g, t⟩).groupOf q) ∧ Fr Fi' w' w'') := fun w' Fi' q' hw => by
        have hw' := hw.regrp (grp' := (s.put id ⟨g, t⟩).groupOf) (fun u i hu => (gput i (fun e => by subst e; rw [hasOf_id_del] at hu; cases hu)).symm)
        have := add_any x b bi bb Fi' (hasOf (s.del id)) (s.put id ⟨g, t⟩).groupOf q' id t w' hw' hid (fun u => hasOf_id_del s id u) ht
        rw [gput'] at this
        refine this.mono fun e w'' ⟨h1, h2, h3⟩ => ⟨h1, ?_, h3⟩
        rw [← hasOf_put_old ⟨g, t⟩]; exact h2
      clear hb hE hF hd hf gput gput' hid hdm hdd
      have hequal := eqDoc
      go_enter Try.func31, Try.ntmps31
      go_wp2_with first
        | (go_at_call 61; refine HG.out.mono ?_; rintro e w1 ⟨rfl, f1⟩
           have hr1 := frNo_cell f1 hr0
           have hx1 : x < w1.heap.size := Nat.lt_of_lt_of_le hxw f1.size)
        | (go_at_call 62; refine (HD.out _ (f1.alloc _)).mono ?_; rintro e w3 ⟨rfl, h3, f3⟩
           have hb1 : w3.heap[w1.heap.size]? = _ := f3.heap (heap_alloc_new w1 _) (HL.out _ f1.size)
           have k0 := cell_of_heap hb1 0
           have k1 := cell_of_heap hb1 1
           have k2 := cell_of_heap hb1 2
           have hb2 := lt_of_heap hb1
           have f03 : Fr Fs w w3 := (f1.any.alloc _).trans f3
           have hs03 := f03.size
           have HS : Hid _ := And.intro h3 f3
           have HXI : Hid (∀ o, IndexAt (w3.alloc o) Fi x b bi bb (hasOf s) s.groupOf q) := fun o => (HIX.out w3 f03).fr ((Fr.refl No w3).alloc o) (fun _ _ h => h)
           clear h3 f3 f03 hb1)
        | (go_at_call 63; refine (HR.out _ (HXI.out _)).mono ?_; rintro e w5 ⟨rfl, ⟨q5, h5⟩, f5⟩
           have hb5 : w5.heap[w3.heap.size]? = _ := f5.heap (heap_alloc_new w3 _) (HLI.out _ hs03)
           have m0 := cell_of_heap hb5 0
           have m1 := cell_of_heap hb5 1
           have m2 := cell_of_heap hb5 2
           have H5 : Hid _ := And.intro h5 f5
           clear h5 f5 hb5)
        | (go_at_call 64; refine (HA.out _ _ _ H5.out.1).mono ?_; rintro e w6 ⟨rfl, h6, f6⟩)
      go_ret
      refine HF.out _ w3 w6 _ (f1.alloc _) HS.out.1 HS.out.2 h6 (fun k hk => ?_) ?_
      · have g5 := H5.out.2.size
        have g6 := f6.size
        simp only [World.size_alloc] at g5
        rcases hk with (e | e) | e
        · exact .inl e
        · right; have a := e.1; have b := e.2; simp only [World.size_alloc] at a; exact ⟨by omega, by omega⟩
        · right; have a := e.1; exact ⟨by omega, e.2⟩
      · refine ((((Fr.refl Fi w3).alloc _).trans H5.out.2)).trans' f6 (fun k hk e => ?_)
        rcases e with e | e
        · exact e
        · have a := e.1; simp only [World.size_alloc] at a; omega
theorem ixPut_any (h : Both w F x s) (hf : Fine s B) (hB : B < 1000000000000000000) : Calls Try.prog 31 #[.pointer (some ⟨x, 0, none⟩), .int .i64 id, .int .i64 g, .string (str t)] w (TurnPost w F x (s.putErr id g t) (s.putR id g t)) := by
  by_cases ht : 12 < t.length
  · exact ixPut_long x F s id g t w h ht
  · by_cases hE : s.putErr id g t = 0
    · exact ixPut_good x F s B id g t w h hf hB (by omega) hE
    · exact ixPut_bad x F s B id g t w h hf hB (by omega) hE
end
end Go.Proofs.Qxb6500357a
