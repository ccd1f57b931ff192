/- The law's state: the tower and the model apart; Sound. -/
import Derived.Test.Qxb6500357aGreatIChk
import Derived.Test.Qxb6500357aGreatMDo
import Derived.Test.Qxb6500357aGreatScript
namespace Go.Proofs.Qxb6500357aGreat
open Go.RowKit Go.Tag
set_option linter.unusedSectionVars false
set_option linter.unusedVariables false
set_option linter.unusedSimpArgs false
set_option maxRecDepth 100000
variable {st0 : Nat}
theorem pos_new : Pos St.new := fun i d h => by simp [St.new] at h
theorem pos_do {s : St} {B : Int} (hf : Fine s B) (h : Pos s) (o : Op) : Pos (doS s o) := by
  unfold doS
  split
  · unfold St.putR
    split
    · intro i d hd
      by_cases e : i = o.a
      · subst e
        have := (hf.revs o.a).1
        simp [St.put]; omega
      · rw [put_other s _ e] at hd
        have := h i d hd
        simp [St.put, e]; exact this
    · exact h
  split
  · unfold St.delR
    split
    · intro i d hd
      by_cases e : i = o.a
      · subst e; rw [del_docs] at hd; cases hd
      · rw [del_other s e] at hd; exact h i d hd
    · exact h
  split
  · intro i d hd
    rw [drop_docs] at hd
    split at hd
    · cases hd
    · exact h i d hd
  split
  · intro i d hd; simp [St.reset] at hd
  · exact h
def towO (st0 : Nat) (x y : Nat) : Obj := .cells #[.pointer (some ⟨st0, 0, none⟩), .pointer (some ⟨x, 0, none⟩), .pointer (some ⟨y, 0, none⟩)] 33
theorem sound_any (z y x : Nat) (F : Nat → Prop) (s : St) (B : Int) (w : World) (hr : w.heap[z]? = some (towO st0 x y)) (h : QAt st0 w F y x s) (hf : Fine s B) (hp : Pos s) :
    Calls Tryz.prog 11 #[.pointer (some ⟨z, 0, none⟩)] w fun e w' => e = .returned (.bool true) ∧ Fr No w w' := by
  have HZ : Hid (∀ W, Fr No w W → W.cell? ⟨z, 0, none⟩ = some (.pointer (some ⟨st0, 0, none⟩)) ∧ W.cell? ⟨z, 1, none⟩ = some (.pointer (some ⟨x, 0, none⟩)) ∧ W.cell? ⟨z, 2, none⟩ = some (.pointer (some ⟨y, 0, none⟩)) ∧ z < W.heap.size) := fun W f => by
    have := f.heap hr (fun h => h)
    exact ⟨by rw [cell_of_heap this]; rfl, by rw [cell_of_heap this]; rfl, by rw [cell_of_heap this]; rfl, lt_of_heap this⟩
  have H1 : Hid (Calls Tryz.prog 33 #[.pointer (some ⟨st0, 0, none⟩)] w fun e w' => e = .returned (.bool true) ∧ Fr No w w') := by
    obtain ⟨b, bd, br, bg, p, bi, bb, q, Fs, Fi, hb, hF⟩ := h.2
    have e := hb.eb
    subst e
    exact storeCheck_any _ bd br bg p Fs s B w hb.st hf hp
  have H2 : Hid (∀ W, Fr No w W → Calls Tryz.prog 34 #[.pointer (some ⟨x, 0, none⟩)] W fun e w' => e = .returned (.bool true) ∧ Fr No W w') := fun W f => indexCheck_any x F s B W (h.2.frNo f) hf
  have H3 : Hid (∀ W, Fr No w W → Calls Tryz.prog 32 #[.pointer (some ⟨y, 0, none⟩)] W fun e w' => e = .returned (.bool true) ∧ w' = W) := fun W f => qCheck_any y x F s W ⟨f.heap h.1 (fun h => h), h.2.frNo f⟩
  obtain ⟨c0, c1, c2, zl⟩ := HZ.out w (Fr.refl _ _)
  clear hr h hf hp
  go_enter Tryz.func11, Tryz.ntmps11
  go_wp2_with first
    | (go_at_call 33; refine H1.out.mono ?_; rintro e w1 ⟨rfl, f1⟩
       obtain ⟨d0, d1, d2, dl⟩ := HZ.out w1 f1)
    | (go_at_call 34; refine (H2.out w1 f1).mono ?_; rintro e w2 ⟨rfl, f2⟩
       have f3 := f1.trans f2
       obtain ⟨e0, e1, e2, el⟩ := HZ.out w2 f3)
    | (go_at_call 32; refine (H3.out w2 f3).mono ?_; rintro e w3 ⟨rfl, hw3⟩
       have hw3 := hw3.symm
       subst hw3)
  go_ret
  exact ⟨rfl, f3⟩

/-- The tower at z (its face y over the index x) holds s; the model's query ym holds sm; the blocks X lie apart from both. -/
structure RIat (st0 : Nat) (w0 w : World) (X F FM : Nat → Prop) (z y x ym xm bm : Nat) (s sm : St) : Prop where
  root : w.heap[z]? = some (towO st0 x y)
  q : QAt st0 w F y x s
  m : MQ w FM ym xm bm sm
  f : ∀ k, F k → k < w.heap.size ∧ w0.heap.size ≤ k ∧ ¬ FX FM xm k
  fm : ∀ k, FX FM xm k → k < w.heap.size ∧ w0.heap.size ≤ k
  x : ∀ k, X k → ¬ F k ∧ ¬ FX FM xm k ∧ k < w.heap.size
  xz : X z ∧ X y ∧ X ym
  fr : Fr No w0 w
def RI (st0 : Nat) (w0 w : World) (X : Nat → Prop) (z y x ym xm bm : Nat) (s sm : St) : Prop := ∃ F FM, RIat st0 w0 w X F FM z y x ym xm bm s sm
section
variable {w0 w w' : World} {X : Nat → Prop} {z y x ym xm bm : Nat} {s sm : St}
theorem RI.pure (h : RI st0 w0 w X z y x ym xm bm s sm) (f : Fr No w w') : RI st0 w0 w' X z y x ym xm bm s sm := by
  obtain ⟨F, FM, h⟩ := h
  have hs := f.size
  exact ⟨F, FM, f.heap h.root (fun h => h), ⟨f.heap h.q.1 (fun h => h), h.q.2.frNo f⟩, h.m.frNo f, fun k hk => ⟨by have := (h.f k hk).1; omega, (h.f k hk).2⟩, fun k hk => ⟨by have := (h.fm k hk).1; omega, (h.fm k hk).2⟩, fun k hk => ⟨(h.x k hk).1, (h.x k hk).2.1, by have := (h.x k hk).2.2; omega⟩, h.xz, h.fr.trans f⟩
theorem RI.alloc (h : RI st0 w0 w X z y x ym xm bm s sm) (o : Obj) : RI st0 w0 (w.alloc o) (fun k => X k ∨ k = w.heap.size) z y x ym xm bm s sm := by
  obtain ⟨F, FM, h⟩ := h
  have f : Fr No w (w.alloc o) := (Fr.refl No w).alloc o
  refine ⟨F, FM, f.heap h.root (fun h => h), ⟨f.heap h.q.1 (fun h => h), h.q.2.frNo f⟩, h.m.frNo f, fun k hk => ⟨by have := (h.f k hk).1; simp; omega, (h.f k hk).2⟩, fun k hk => ⟨by have := (h.fm k hk).1; simp; omega, (h.fm k hk).2⟩, fun k hk => ?_, ⟨.inl h.xz.1, .inl h.xz.2.1, .inl h.xz.2.2⟩, h.fr.trans f⟩
  rcases hk with hk | rfl
  · exact ⟨(h.x k hk).1, (h.x k hk).2.1, by have := (h.x k hk).2.2; simp; omega⟩
  · exact ⟨fun e => by have := (h.f _ e).1; omega, fun e => by have := (h.fm _ e).1; omega, by simp⟩
theorem RI.weak (h : RI st0 w0 w X z y x ym xm bm s sm) {X' : Nat → Prop} (hX : ∀ k, X' k → X k) (hz : X' z ∧ X' y ∧ X' ym) : RI st0 w0 w X' z y x ym xm bm s sm := by
  obtain ⟨F, FM, h⟩ := h
  exact ⟨F, FM, h.root, h.q, h.m, h.f, h.fm, fun k hk => h.x k (hX k hk), hz, h.fr⟩
/-- What a changing call leaves. -/
def RPost (st0 : Nat) (w0 w : World) (X : Nat → Prop) (z y x ym xm bm : Nat) (v : Value) (s' sm' : St) (e : Ending) (w' : World) : Prop :=
  e = .returned v ∧ RI st0 w0 w' X z y x ym xm bm s' sm' ∧ (∀ k, X k → w'.heap[k]? = w.heap[k]?)
theorem RI.do (h : RI st0 w0 w X z y x ym xm bm s sm) {B : Int} (hf : Fine s B) (hB : B < 1000000000000000000) (o : Op) :
    Calls Tryz.prog 10 #[.pointer (some ⟨y, 0, none⟩), o.v] w (RPost st0 w0 w X z y x ym xm bm (doA s o).v (doS s o) sm) := by
  obtain ⟨F, FM, h⟩ := h
  refine (do_any y x F s B w o h.q hf hB).mono ?_
  rintro e w' ⟨rfl, hb, hfr⟩
  have hs := hfr.size
  have hfr0 : Fr No w0 w' := h.fr.trans' hfr (fun k hk e => by have := (h.f k e).2.1; omega)
  refine ⟨rfl, ⟨_, FM, hfr.heap h.root (h.x z h.xz.1).1, ⟨hfr.heap h.q.1 (h.x y h.xz.2.1).1, both_bound hb⟩, ⟨hfr.heap h.m.root (h.x ym h.xz.2.2).1, h.m.ix.fr hfr (fun k hk e => (h.f k e).2.2 hk), h.m.ne⟩, ?_, fun k hk => ⟨by have := (h.fm k hk).1; omega, (h.fm k hk).2⟩, ?_, h.xz, hfr0⟩, fun k hk => hfr.block k (h.x k hk).2.2 (h.x k hk).1⟩
  · rintro k ⟨hk | hk, hlt⟩
    · exact ⟨hlt, (h.f k hk).2⟩
    · exact ⟨hlt, by have := hk.1; have := h.fr.size; omega, fun e => by have := (h.fm k e).1; have := hk.1; omega⟩
  · intro k hk
    refine ⟨?_, (h.x k hk).2.1, by have := (h.x k hk).2.2; omega⟩
    rintro ⟨e | e, _⟩
    · exact (h.x k hk).1 e
    · have := e.1; have := (h.x k hk).2.2; omega
theorem RIat.turn {F FM FM' : Nat → Prop} {sm' : St} (h : RIat st0 w0 w X F FM z y x ym xm bm s sm) (hm : MX w' FM' xm bm sm') (hF : ∀ k, FM' k → (FM k ∨ w.heap.size ≤ k) ∧ k < w'.heap.size) (hfr : Fr (FX FM xm) w w') : RI st0 w0 w' X z y x ym xm bm s sm' ∧ ∀ k, X k → w'.heap[k]? = w.heap[k]? := by
  have hs := hfr.size
  have hfr0 : Fr No w0 w' := h.fr.trans' hfr (fun k hk e => by have := (h.fm k e).2; omega)
  have hxl := (h.fm xm (.inr rfl)).1
  have hX : ∀ k, k < w.heap.size → ¬ FX FM xm k → ¬ FX FM' xm k := by
    rintro k hk hn (e | e)
    · rcases (hF k e).1 with e | e
      · exact hn (.inl e)
      · omega
    · exact hn (.inr e)
  refine ⟨⟨F, FM', hfr.heap h.root (h.x z h.xz.1).2.1, ⟨hfr.heap h.q.1 (h.x y h.xz.2.1).2.1, h.q.2.fr hfr (fun k hk => (h.f k hk).2.2)⟩, ⟨hfr.heap h.m.root (h.x ym h.xz.2.2).2.1, hm, hX ym (h.x ym h.xz.2.2).2.2 h.m.ne⟩, ?_, ?_, ?_, h.xz, hfr0⟩, fun k hk => hfr.block k (h.x k hk).2.2 (h.x k hk).2.1⟩
  · intro k hk
    have h1 := h.f k hk
    exact ⟨by omega, h1.2.1, hX k h1.1 h1.2.2⟩
  · rintro k (hk | rfl)
    · have h1 := hF k hk
      refine ⟨h1.2, ?_⟩
      rcases h1.1 with e | e
      · exact (h.fm k (.inl e)).2
      · have := h.fr.size; omega
    · have h1 := h.fm k (.inr rfl)
      exact ⟨by omega, h1.2⟩
  · intro k hk
    have h1 := h.x k hk
    exact ⟨h1.1, hX k h1.2.2 h1.2.1, by omega⟩
theorem RI.dom (h : RI st0 w0 w X z y x ym xm bm s sm) {B : Int} (hf : Fine sm B) (hB : B < 1000000000000000000) (o : Op) :
    Calls Tryz.prog 12 #[.pointer (some ⟨ym, 0, none⟩), o.v] w (RPost st0 w0 w X z y x ym xm bm (doA sm o).v s (doS sm o)) := by
  obtain ⟨F, FM, h⟩ := h
  refine (mdo_any ym xm bm FM sm B w o h.m hf hB).mono ?_
  rintro e w' ⟨rfl, hm, hfr⟩
  exact ⟨rfl, h.turn hm (fun k hk => hk) hfr⟩
theorem RI.mshow (h : RI st0 w0 w X z y x ym xm bm s sm) {B : Int} (hf : Fine sm B) (hB : B < 1000000000000000000) :
    Calls Tryz.prog 14 #[.pointer (some ⟨ym, 0, none⟩)] w (RPost st0 w0 w X z y x ym xm bm (.string (str (ixShow sm))) s sm) := by
  obtain ⟨F, FM, h⟩ := h
  refine (mqShow_any ym xm bm FM sm B w h.m hf hB).mono ?_
  rintro e w' ⟨rfl, hm, hfr⟩
  exact ⟨rfl, h.turn hm (fun k hk => ⟨.inl hk, by have := (h.fm k (.inl hk)).1; have := hfr.size; omega⟩) hfr⟩
theorem RI.sound (h : RI st0 w0 w X z y x ym xm bm s sm) {B : Int} (hf : Fine s B) (hp : Pos s) : Calls Tryz.prog 11 #[.pointer (some ⟨z, 0, none⟩)] w fun e w' => e = .returned (.bool true) ∧ Fr No w w' := by
  obtain ⟨F, FM, h⟩ := h
  exact sound_any z y x F s B w h.root h.q hf hp
theorem RI.show (h : RI st0 w0 w X z y x ym xm bm s sm) {B : Int} (hf : Fine s B) (hB : B < 1000000000000000000) : Calls Tryz.prog 13 #[.pointer (some ⟨y, 0, none⟩)] w (StrPost w (ixShow s)) := by
  obtain ⟨F, FM, h⟩ := h
  exact qShow_any y x F s B w h.q hf hB
theorem RI.xshow (h : RI st0 w0 w X z y x ym xm bm s sm) {B : Int} (hf : Fine s B) (hB : B < 1000000000000000000) : Calls Tryz.prog 15 #[.pointer (some ⟨x, 0, none⟩)] w (StrPost w (ixShow s)) := by
  obtain ⟨F, FM, h⟩ := h
  exact ixShow_any x F s B w h.q.2 hf hB
theorem RI.sshow (h : RI st0 w0 w X z y x ym xm bm s sm) {B : Int} (hf : Fine s B) (hB : B < 1000000000000000000) : Calls Tryz.prog 16 #[.pointer (some ⟨st0, 0, none⟩)] w (StrPost w s.show) := by
  obtain ⟨F, FM, h⟩ := h
  obtain ⟨b, bd, br, bg, p, bi, bb, q, Fs, Fi, hb, hF⟩ := h.q.2
  have e := hb.eb
  subst e
  exact storeShow_any _ bd br bg p Fs s B w hb.st hf hB
theorem RI.fr0 (h : RI st0 w0 w X z y x ym xm bm s sm) : Fr No w0 w := by obtain ⟨F, FM, h⟩ := h; exact h.fr
theorem RI.root (h : RI st0 w0 w X z y x ym xm bm s sm) : w.heap[z]? = some (towO st0 x y) := by obtain ⟨F, FM, h⟩ := h; exact h.root
theorem ri_new {w w1 w2 : World} {F : Nat → Prop} (hT : TowerAt st0 w1 F z y x st0 St.new) (hF : ∀ k, F k → Since w w1 k) (f1 : Fr No w w1) (hM : MQ w2 (fun k => k = bm) ym xm bm St.new) (h1 : w1.heap.size ≤ bm) (h2 : w1.heap.size ≤ xm) (h3 : w1.heap.size ≤ ym) (f2 : Fr No w1 w2) :
    RI st0 w w2 (fun k => k = z ∨ k = y ∨ k = ym) z y x ym xm bm St.new St.new := by
  have s1 := f1.size
  have s2 := f2.size
  have zl := lt_of_heap hT.root
  have yl := lt_of_heap hT.q.1
  refine ⟨F, _, f2.heap hT.root (fun h => h), ⟨f2.heap hT.q.1 (fun h => h), hT.q.2.frNo f2⟩, hM, ?_, ?_, ?_, ⟨.inl rfl, .inr (.inl rfl), .inr (.inr rfl)⟩, f1.trans f2⟩
  · intro k hk
    have := hF k hk
    refine ⟨by have := this.2; omega, this.1, ?_⟩
    have := this.2
    rintro (e | e) <;> omega
  · intro k hk
    refine ⟨hM.ix.lt k hk, ?_⟩
    rcases hk with e | e <;> omega
  · rintro k (rfl | rfl | rfl)
    · refine ⟨hT.ne.1, ?_, by omega⟩
      rintro (e | e) <;> omega
    · refine ⟨hT.ne.2, ?_, by omega⟩
      rintro (e | e) <;> omega
    · exact ⟨fun e => by have := (hF _ e).2; omega, hM.ne, lt_of_heap hM.root⟩
end
/-- The law's state with the boxes that lie apart. -/
def RS (st0 : Nat) (w0 w : World) (z y x ym xm bm : Nat) (s sm : St) (L : List (Nat × Obj)) : Prop :=
  RI st0 w0 w (fun k => (k = z ∨ k = y ∨ k = ym) ∨ ∃ o, (k, o) ∈ L) z y x ym xm bm s sm ∧ ∀ p ∈ L, w.heap[p.1]? = some p.2
section
variable {w0 w w' : World} {z y x ym xm bm : Nat} {s sm : St} {L : List (Nat × Obj)}
theorem RS.pure (h : RS st0 w0 w z y x ym xm bm s sm L) (f : Fr No w w') : RS st0 w0 w' z y x ym xm bm s sm L :=
  ⟨h.1.pure f, fun p hp => f.heap (h.2 p hp) (fun h => h)⟩
theorem RS.alloc (h : RS st0 w0 w z y x ym xm bm s sm L) (o : Obj) : RS st0 w0 (w.alloc o) z y x ym xm bm s sm ((w.heap.size, o) :: L) := by
  refine ⟨(h.1.alloc o).weak ?_ ⟨.inl (.inl rfl), .inl (.inr (.inl rfl)), .inl (.inr (.inr rfl))⟩, ?_⟩
  · rintro k (hk | ⟨o', hk⟩)
    · exact .inl (.inl hk)
    · rcases List.mem_cons.1 hk with e | e
      · exact .inr (congrArg Prod.fst e)
      · exact .inl (.inr ⟨o', e⟩)
  · intro p hp
    rcases List.mem_cons.1 hp with e | e
    · rw [e]; exact heap_alloc_new w o
    · exact ((Fr.refl No w).alloc o).heap (h.2 p e) (fun h => h)
theorem RS.nil (h : RS st0 w0 w z y x ym xm bm s sm L) : RS st0 w0 w z y x ym xm bm s sm [] :=
  ⟨h.1.weak (fun k hk => hk.elim .inl (fun ⟨o, e⟩ => by cases e)) ⟨.inl (.inl rfl), .inl (.inr (.inl rfl)), .inl (.inr (.inr rfl))⟩, fun p hp => by cases hp⟩
theorem RS.turn {v : Value} {s' sm' : St} {f : FuncId} {args : Array Value} (h : RS st0 w0 w z y x ym xm bm s sm L) (hc : Calls Tryz.prog f args w (RPost st0 w0 w (fun k => (k = z ∨ k = y ∨ k = ym) ∨ ∃ o, (k, o) ∈ L) z y x ym xm bm v s' sm')) :
    Calls Tryz.prog f args w fun e w' => e = .returned v ∧ RS st0 w0 w' z y x ym xm bm s' sm' L :=
  hc.mono fun e w' ⟨h1, h2, h3⟩ => ⟨h1, h2, fun p hp => (h3 p.1 (.inr ⟨p.2, hp⟩)).trans (h.2 p hp)⟩
end
end Go.Proofs.Qxb6500357aGreat
