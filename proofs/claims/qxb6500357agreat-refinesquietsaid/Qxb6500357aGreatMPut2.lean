/- The model's Put and Del: the walks. -/
import Derived.Test.Qxb6500357aGreatMPut
import Derived.Test.Qxb6500357aGreatInto
import Derived.Deep.CutRange
namespace Go.Tag
open Go.RowKit Go.Proofs.Qxb6500357aGreat
set_option linter.unusedVariables false
set_option linter.unusedSimpArgs false
theorem MSat.toL {w : World} {F : Nat → Prop} {b : Nat} {s : St} {D : Value} {a : Int} (h : MSat w F b s D a) : MSL w F b s D a s.ids.length (docF s s.ids) := ⟨h.row, h.fb, h.own, h.fd, h.lt⟩
theorem fr_owned3 {w a b : World} {v : Value} {base n : Nat} {e : TypeId} {xs : List Value} (f : Fr No w a) (ho : a.ownsRow base e 3 v n xs) (hb : w.heap.size ≤ base) (hg : a.grownBy b v.ownBlock) : Fr No w b :=
  f.trans' ((Fr.refl (fun k => v.ownBlock = some k) a).grown hg (fun k hk => .inr hk)) (fun i hi e => by have := own_ge ho e; omega)
/-- The new slice laid in. -/
theorem mid_set {w w1 wr : World} {F : Nat → Prop} {b : Nat} {s s' : St} {D D' : Value} {a : Int} {id : Int} {d : Doc} {j : Nat} {A C : List Value} {x y z : Value} (h : MSat w1 F b s D a) (f1 : Fr F w w1) (f : Fr No w1 wr) (hF : ∀ k, F k → k < w.heap.size) (ho : wr.ownsRow w1.heap.size 88 3 D' s'.ids.length (A ++ [x, y, z] ++ C))
    (hA : A.length = j * 3) (hj : j < s'.ids.length) (he : docF s' s'.ids = A ++ [.int .i64 id, .int .i64 d.group, .string (str d.text)] ++ C) : PutMid w F b s s' id d j (wr.setCell ⟨b, 0, none⟩ D') := by
  have hM := h.fr f (fun _ _ e => e)
  have hs : (wr.setCell ⟨b, 0, none⟩ D').heap.size = wr.heap.size := by simp
  have hsz := f1.size
  have fb : Fr (fun k => k = b) wr (wr.setCell ⟨b, 0, none⟩ D') := (Fr.refl (fun k => k = b) wr).setCell (p := ⟨b, 0, none⟩) (.inr rfl) _
  have hbw := hF b h.fb
  refine ⟨D', a, A, C, x, y, z, ⟨(hM.row.set (by omega) _).congr (fun i hi => ?_), ⟨.inl h.fb, by rw [hs]; exact hM.lt b h.fb⟩, own_fr2 (own_base ho (Nat.zero_le _)) fb (fun k hk e => by have := own_ge ho hk; omega), fun k hk => ?_, fun k hk => hk.2⟩, hA, hj, he, (f1.trans f.any).setCell (p := ⟨b, 0, none⟩) (.inr h.fb) _⟩
  · unfold updN fM
    by_cases e : i = 0
    · subst e; rfl
    · rw [if_neg e, if_neg e, if_neg e]
  · have h1 := own_ge ho hk
    have h2 := (ho.lt k hk).2
    exact ⟨⟨.inr (by omega), by rw [hs]; exact h2⟩, by omega⟩
theorem mid_old {w w1 : World} {F : Nat → Prop} {b : Nat} {s s' : St} {D : Value} {a : Int} {id : Int} {d : Doc} {j : Nat} {C : List Value} {id' : Int} (h : MSat w1 F b s D a) (f1 : Fr F w w1) (hl : s'.ids.length = s.ids.length)
    (hxs : docF s s.ids = docF s (s.ids.take j) ++ docC s id' ++ C) (hj : j < s.ids.length) (he : docF s' s'.ids = docF s (s.ids.take j) ++ [.int .i64 id, .int .i64 d.group, .string (str d.text)] ++ C) : PutMid w F b s s' id d j w1 := by
  refine ⟨D, a, docF s (s.ids.take j), C, .int .i64 id', .int .i64 (s.groupOf id'), .string (str (s.textOf id')), ⟨h.row, ⟨.inl h.fb, h.lt _ h.fb⟩, ?_, fun k hk => ⟨⟨.inl (h.fd k hk).1, h.lt _ (h.fd k hk).1⟩, (h.fd k hk).2⟩, fun k hk => hk.2⟩, ?_, by rw [hl]; exact hj, he, f1⟩
  · have := h.own
    rw [hxs] at this
    rw [hl]; exact this
  · rw [docF_len, List.length_take]; congr 1; omega
/-- The document laid in, the counter turned. -/
theorem mid_end {w wx : World} {F : Nat → Prop} {b : Nat} {s : St} {k : Nat} {d : Doc} {j : Nat} (hk : 1 ≤ k ∧ k ≤ 9) {D : Value} {a : Int} {A C : List Value} {x y z : Value} {g cap : Nat}
    (h : MSL wx (fun k => (F k ∨ w.heap.size ≤ k) ∧ k < wx.heap.size) b s D a (s.put k d).ids.length (A ++ [x, y, z] ++ C)) (hA : A.length = j * 3) (hj : j < (s.put k d).ids.length) (he : docF (s.put k d) (s.put k d).ids = A ++ [.int .i64 k, .int .i64 d.group, .string (str d.text)] ++ C) (hf : Fr F w wx) (hD : D = .slice (some ⟨g, 0, none⟩) (s.put k d).ids.length cap) (hF : F b) :
    let w3 := ((((wx.setCell ⟨g, j * 3, none⟩ (.int .i64 k)).setCell ⟨g, j * 3 + 1, none⟩ (.int .i64 d.group)).setCell ⟨g, j * 3 + 2, none⟩ (.string (str d.text))).setCell ⟨b, 1 + k, none⟩ (.int .i64 (s.revs k + 1)))
    MS w3 (fun k => (F k ∨ w.heap.size ≤ k) ∧ k < w3.heap.size) b (s.put k d) ∧ Fr F w w3 := by
  intro w3
  subst hD
  have hg := h.fd g rfl
  have h0 := h.own
  have h1 := (own_cells3 h0).2.2.2.2 (j * 3) (.int .i64 k) (by omega)
  have h2 := (own_cells3 h1).2.2.2.2 (j * 3 + 1) (.int .i64 d.group) (by omega)
  have h3 := (own_cells3 h2).2.2.2.2 (j * 3 + 2) (.string (str d.text)) (by omega)
  rw [set_three _ _ _ _ _ _ _ _ _ hA, ← he] at h3
  have fg : Fr (fun k => k = g) wx (((wx.setCell ⟨g, j * 3, none⟩ (.int .i64 k)).setCell ⟨g, j * 3 + 1, none⟩ (.int .i64 d.group)).setCell ⟨g, j * 3 + 2, none⟩ (.string (str d.text))) :=
    (((Fr.refl (fun k => k = g) wx).setCell (p := ⟨g, j * 3, none⟩) (.inr rfl) _).setCell (p := ⟨g, j * 3 + 1, none⟩) (.inr rfl) _).setCell (p := ⟨g, j * 3 + 2, none⟩) (.inr rfl) _
  have hrow := h.row.fr fg (Ne.symm hg.2)
  have hsz : w3.heap.size = wx.heap.size := by simp [w3]
  have fb : Fr (fun k => k = b) (((wx.setCell ⟨g, j * 3, none⟩ (.int .i64 k)).setCell ⟨g, j * 3 + 1, none⟩ (.int .i64 d.group)).setCell ⟨g, j * 3 + 2, none⟩ (.string (str d.text))) w3 := (Fr.refl (fun k => k = b) _).setCell (p := ⟨b, 1 + k, none⟩) (.inr rfl) _
  refine ⟨⟨_, a, ⟨(hrow.set (i := 1 + k) (by omega) _).congr (fun i hi => ?_), by rw [hsz]; exact h.fb, own_fr2 h3 fb (fun k hk e => by simp only [Value.ownBlock, Option.some.injEq] at hk; exact hg.2 (hk.trans e)), by rw [hsz]; exact h.fd, fun k hk => hk.2⟩⟩, ?_⟩
  · unfold updN fM
    by_cases e : i = 1 + k
    · subst e
      rw [if_neg (by omega), if_neg (by omega), if_pos rfl]
      congr 1
      rw [show (((1 + k : Nat) : Int) - 1) = (k : Int) by omega]
      show (if (k : Int) = k then s.revs k + 1 else s.revs k) = _
      rw [if_pos rfl]
    · rw [if_neg e]
      by_cases e0 : i = 0
      · rw [if_pos e0, if_pos e0]
      · rw [if_neg e0, if_neg e0]
        by_cases e1 : i = 11
        · rw [if_pos e1, if_pos e1]
        · rw [if_neg e1, if_neg e1]
          congr 1
          show (if ((i : Int) - 1) = k then _ else s.revs ((i : Int) - 1)) = _
          rw [if_neg (by omega)]
  · have f2 : Fr (fun q => q = g ∨ q = b) wx w3 := (fg.mono (fun k _ e => .inl e)).trans (fb.mono (fun k _ e => .inr e))
    refine hf.trans' f2 (fun i hi e => ?_)
    rcases e with rfl | rfl
    · rcases hg.1.1 with h | h
      · exact h
      · omega
    · exact hF
end Go.Tag
namespace Go.Proofs.Qxb6500357aGreat
open Go.RowKit Go.Tag
set_option linter.unusedVariables false
set_option linter.unusedSimpArgs false
set_option maxRecDepth 100000
attribute [local simp] str_size
attribute [local go_sem] str_size
section
variable (b : Nat) (F : Nat → Prop) (s : St) (B : Int) (w : World)
theorem mturn_keep {w w' : World} {F : Nat → Prop} {b : Nat} {s : St} {v : Value} (h : MS w' F b s) (f : Fr F w w') : MTurn w F b s v (.returned v) w' := by
  obtain ⟨D, a, h⟩ := h
  exact ⟨rfl, ⟨D, a, h.weak (fun k hk => ⟨.inl hk, h.lt k hk⟩) (fun k hk => hk.2)⟩, f⟩

set_option maxHeartbeats 1000000 in
theorem mPut_bad (id g : Int) (t : List UInt8) (h : MS w F b s) (hf : Fine s B) (hlen : t.length ≤ 1000) (he : s.putErr id g t ≠ 0) : Calls Tryz.prog 89 #[.pointer (some ⟨b, 0, none⟩), .int .i64 id, .int .i64 g, .string (str t)] w (MTurn w F b s (.int .i64 (s.putErr id g t))) := by
  have HM : Hid (∀ W v, Fr No w W → MTurn w F b s v (.returned v) W) := fun W v f => mturn_keep (h.frNo f) f.any
  have HA : Hid (∀ W, Fr No w W → Calls Tryz.prog 102 #[.pointer (some ⟨b, 0, none⟩), .int .i64 id] W (AtPost W s id)) := fun W f => mAt_any b F s W id (h.frNo f) (by have := hf.size; omega)
  have HTX : Hid (∀ W, Calls Tryz.prog 100 #[.string (str t)] W fun e w' => e = .returned (.bool (textOK t)) ∧ w' = W) := fun W => textOK_any t W hlen
  by_cases c1 : 12 < t.length
  · have hE : s.putErr id g t = 1 := by unfold St.putErr; rw [if_pos c1]
    rw [hE]
    have d1 : decide ((12 : Int) < (t.length : Int)) = true := by simp; omega
    have d1' : (12 : Int) < (t.length : Int) := by omega
    clear hE he h hf
    go_enter Tryz.func89, Tryz.ntmps89
    go_wp2
    go_ret
    exact HM.out _ _ (Fr.refl _ _)
  have d1 : decide ((12 : Int) < (t.length : Int)) = false := by simp; omega
  have d1' : ¬ (12 : Int) < (t.length : Int) := by omega
  by_cases c2 : ¬ (1 ≤ id ∧ id ≤ 9)
  · have hE : s.putErr id g t = 2 := by unfold St.putErr; rw [if_neg c1, if_pos c2]
    rw [hE]
    have hdd : (decide (id < 1) = true ∧ id < 1) ∨ (decide (id < 1) = false ∧ ¬ id < 1 ∧ decide (9 < id) = true ∧ 9 < id) := by
      by_cases h1 : id < 1
      · exact .inl ⟨by simpa using h1, h1⟩
      · exact .inr ⟨by simpa using h1, h1, by simp; omega, by omega⟩
    clear hE he h hf c1 c2
    rcases hdd with ⟨e1, e2⟩ | ⟨e1, e2, e3, e4⟩
    all_goals
      go_enter Tryz.func89, Tryz.ntmps89
      go_wp2
      go_ret
      exact HM.out _ _ (Fr.refl _ _)
  have e1 : decide (id < 1) = false := by simp; omega
  have e2 : ¬ id < 1 := by omega
  have e3 : decide (9 < id) = false := by simp; omega
  have e4 : ¬ 9 < id := by omega
  by_cases c3 : ¬ (0 ≤ g ∧ g ≤ 2)
  · have hE : s.putErr id g t = 3 := by unfold St.putErr; rw [if_neg c1, if_neg c2, if_pos c3]
    rw [hE]
    have hdd : (decide (g < 0) = true ∧ g < 0) ∨ (decide (g < 0) = false ∧ ¬ g < 0 ∧ decide (2 < g) = true ∧ 2 < g) := by
      by_cases h1 : g < 0
      · exact .inl ⟨by simpa using h1, h1⟩
      · exact .inr ⟨by simpa using h1, h1, by simp; omega, by omega⟩
    clear hE he h hf c1 c2 c3
    rcases hdd with ⟨g1, g2⟩ | ⟨g1, g2, g3, g4⟩
    all_goals
      go_enter Tryz.func89, Tryz.ntmps89
      go_wp2
      go_ret
      exact HM.out _ _ (Fr.refl _ _)
  have g1 : decide (g < 0) = false := by simp; omega
  have g2 : ¬ g < 0 := by omega
  have g3 : decide (2 < g) = false := by simp; omega
  have g4 : ¬ 2 < g := by omega
  by_cases c4 : textOK t = false
  · have hE : s.putErr id g t = 4 := by unfold St.putErr; rw [if_neg c1, if_neg c2, if_neg c3, if_pos c4]
    rw [hE]
    rw [c4] at HTX
    clear hE he h hf c1 c2 c3 c4
    go_enter Tryz.func89, Tryz.ntmps89
    go_wp2_with (go_at_call 100; refine (HTX.out _).mono ?_; rintro e w' ⟨rfl, hw'⟩; have hw' := hw'.symm; subst hw')
    go_ret
    exact HM.out _ _ (Fr.refl _ _)
  have c4 : textOK t = true := by simpa using c4
  by_cases c5 : s.docs id = none ∧ s.ids.length = 6
  · have hE : s.putErr id g t = 5 := by unfold St.putErr; rw [if_neg c1, if_neg c2, if_neg c3, if_neg (by rw [c4]; simp), if_pos c5]
    rw [hE]
    rw [c4] at HTX
    have HT : Hid (∀ j, AtPos s id j → decide (∃ h : j < s.ids.length, s.ids[j] = id) = false) := fun j hj => by
      rw [decide_eq_false_iff_not, atPos_there hf hj, c5.1]; simp
    obtain ⟨D, a, h⟩ := h
    obtain ⟨k0, -, -, hbl⟩ := h.cells
    obtain ⟨a0, cap, hD, -, -⟩ := h.docs
    rw [c5.2] at hD
    subst hD
    clear hE he hf c1 c2 c3 c4 c5 h
    go_enter Tryz.func89, Tryz.ntmps89
    go_wp2_with first
      | (go_at_call 100; refine (HTX.out _).mono ?_; rintro e w' ⟨rfl, hw'⟩; have hw' := hw'.symm; subst hw')
      | (go_at_call 102; refine (HA.out w (Fr.refl _ _)).mono ?_
         rintro e w1 ⟨j, rfl, hP, f1⟩
         rw [HT.out j hP]
         have k1 := f1.cell k0 (fun h => h))
    go_ret
    exact HM.out _ _ f1
  · exact absurd (by unfold St.putErr; rw [if_neg c1, if_neg c2, if_neg c3, if_neg (by rw [c4]; simp), if_neg c5]) he
end
end Go.Proofs.Qxb6500357aGreat
