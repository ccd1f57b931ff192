import Derived.Test.Qxb6500357aRemove
import Derived.Test.Qxb6500357aStore7
import Derived.Test.Qxb6500357aStore3
import Derived.Test.Qxb6500357aBoth
namespace Go.Proofs.Qxb6500357a
open Go.RowKit Go.Tag
set_option linter.unusedVariables false
set_option linter.unusedSimpArgs false
set_option maxRecDepth 100000
attribute [local simp] str_size
attribute [local go_sem] str_size

/-- What a call that turns the tower leaves: the answer n, the documents s'. -/
def TurnPost (w : World) (F : Nat → Prop) (x : Nat) (n : Int) (s' : St) (e : Ending) (w' : World) : Prop :=
  e = .returned (.int .i64 n) ∧ Both w' (fun k => F k ∨ Since w w' k) x s' ∧ Fr F w w'

theorem turn_keep {w w' : World} {F : Nat → Prop} {x : Nat} {n : Int} {s : St} (h : Both w F x s) (hf : Fr No w w') : TurnPost w F x n s (.returned (.int .i64 n)) w' :=
  ⟨rfl, (h.frNo hf).mono (fun k hk => .inl hk), hf.any⟩

section
variable (x : Nat) (F : Nat → Prop) (s : St) (B : Int) (id : Int) (w : World)

/-- Both, with the old document's block set aside, behind the store's put. -/
theorem both_put {b bd br bg : Nat} {p : Int → Nat} {bi bb : Nat} {q : Word → Nat} {Fs Fi : Nat → Prop} {x : Nat} {s s' : St} {w w1 w3 : World} {p' : Int → Nat} (h : BothAt w x s b bd br bg p bi bb q Fs Fi) (h1 : Fr No w w1)
    (hs : StoreAt w3 (fun k => Fs k ∨ Since w1 w3 k) b s' bd br bg p') (h3 : Fr Fs w1 w3) :
    IndexAt w3 Fi x b bi bb (hasOf s) s.groupOf q ∧ Fr Fs w w3 ∧ (∀ k, (Fs k ∨ Since w1 w3 k) → ¬ Fi k) ∧ (∀ k, (Fs k ∨ Since w1 w3 k) → k < w3.heap.size) ∧ (∀ k, (Fs k ∨ Since w1 w3 k) → Fs k ∨ Since w w3 k) := by
  have f : Fr Fs w w3 := h1.any.trans h3
  refine ⟨h.ix.fr f (fun k hk e => h.dis k e hk), f, ?_, ?_, ?_⟩
  · rintro k (hk | hk)
    · exact h.dis k hk
    · intro hi; have a := h.li k hi; have b := h1.size; have c := hk.1; omega
  · rintro k (hk | hk)
    · have := h.ls k hk; have := f.size; omega
    · exact hk.2
  · rintro k (hk | hk)
    · exact .inl hk
    · right; have := h1.size; have a := hk.1; exact ⟨by omega, hk.2⟩

set_option maxHeartbeats 1000000 in
theorem ixDel_any (h : Both w F x s) (hf : Fine s B) : Calls Try.prog 51 #[.pointer (some ⟨x, 0, none⟩), .int .i64 id] w (TurnPost w F x (s.getErr id) (s.delR id)) := by
  have HB : Hid (Both w F x s) := h
  obtain ⟨b, bd, br, bg, p, bi, bb, q, Fs, Fi, hb, hF⟩ := h
  have hr0 : w.cell? ⟨x, 0, none⟩ = some (.pointer (some ⟨b, 0, none⟩)) := by rw [cell_of_heap hb.ix.root]; rfl
  have hxw := hb.ix.lt.1
  have hxs : ¬ Fs x := fun e => hb.dis x e hb.ix.own.1
  cases hd : s.docs id with
  | none =>
    have hE : s.getErr id ≠ 0 := by
      unfold St.getErr; rw [hd]; split <;> simp
    have HG : Hid (Calls Try.prog 61 #[.pointer (some ⟨b, 0, none⟩), .int .i64 id] w fun e w' => e = .returned (.tuple #[.agg #[.int .i64 0, .int .i64 0, .string (str [])], .int .i64 (s.getErr id)]) ∧ Fr No w w') :=
      (get_any b bd br bg p Fs s B id w hb.st hf).mono fun e w' ⟨h1, h2⟩ => ⟨by rw [h1, getDoc_none hd]; rfl, h2⟩
    have HD : Hid (∀ w', Fr No w w' → Calls Try.prog 76 #[.pointer (some ⟨b, 0, none⟩), .int .i64 id] w' (DelPost w' Fs b s id bd br bg p)) := fun w' hw => storeDel_any b bd br bg p Fs s B id w' (hb.st.fr hw (fun _ _ h => h)) hf
    have HF : Hid (∀ w1 w3, Fr No w w1 → StoreAt w3 Fs b (s.delR id) bd br bg p → Fr Fs w1 w3 → TurnPost w F x (s.getErr id) (s.delR id) (.returned (.int .i64 (s.getErr id))) w3) := by
      intro w1 w3 f1 h3 f3
      rw [delR_none hd] at h3 ⊢
      have f : Fr Fs w w3 := f1.any.trans f3
      exact ⟨rfl, ⟨b, bd, br, bg, p, bi, bb, q, Fs, Fi, ⟨h3, hb.ix.fr f (fun k hk e => hb.dis k e hk), hb.dis, fun k hk => Nat.lt_of_lt_of_le (hb.ls k hk) f.size, fun k hk => Nat.lt_of_lt_of_le (hb.li k hk) f.size⟩, fun k hk => .inl (hF k hk)⟩, f.mono (fun k _ hk => hF k (.inl hk))⟩
    have hne : (s.getErr id != 0) = true := by simpa using hE
    clear hb hE hF hd hf
    have hequal := eqDoc
    go_enter Try.func51, Try.ntmps51
    go_wp2_with first
      | (go_at_call 61; refine HG.out.mono ?_; rintro e w1 ⟨rfl, f1⟩
         have hr1 := frNo_cell f1 hr0
         have hx1 : x < w1.heap.size := Nat.lt_of_lt_of_le hxw f1.size)
      | (go_at_call 76; refine (HD.out _ (f1.alloc _)).mono ?_; rintro e w3 ⟨rfl, h3, f3⟩
         have HZ : Hid (TurnPost w F x (s.getErr id) (s.delR id) (.returned (.int .i64 (s.getErr id))) w3) := HF.out _ w3 (f1.alloc _) h3 f3
         clear h3)
    go_ret
    exact HZ.out
  | some d =>
    have hdm := hf.dom id d hd
    have HG : Hid (Calls Try.prog 61 #[.pointer (some ⟨b, 0, none⟩), .int .i64 id] w fun e w' => e = .returned (.tuple #[.agg #[.int .i64 id, .int .i64 d.group, .string (str d.text)], .int .i64 0]) ∧ Fr No w w') :=
      (get_any b bd br bg p Fs s B id w hb.st hf).mono fun e w' ⟨h1, h2⟩ => ⟨by rw [h1, getDoc_some hd, getErr_some hdm.1 hd]; rfl, h2⟩
    have HD : Hid (∀ w', Fr No w w' → Calls Try.prog 76 #[.pointer (some ⟨b, 0, none⟩), .int .i64 id] w' fun e w'' => e = .returned (.int .i64 0) ∧ StoreAt w'' Fs b (s.del id) bd br bg p ∧ Fr Fs w' w'') := fun w' hw =>
      (storeDel_any b bd br bg p Fs s B id w' (hb.st.fr hw (fun _ _ h => h)) hf).mono fun e w'' ⟨h1, h2, h3⟩ => ⟨by rw [h1, getErr_some hdm.1 hd], by rw [delR_some hd] at h2; exact h2, h3⟩
    have HR : Hid (∀ w', IndexAt w' Fi x b bi bb (hasOf s) s.groupOf q → Calls Try.prog 63 #[.pointer (some ⟨x, 0, none⟩), .agg #[.int .i64 id, .int .i64 d.group, .string (str d.text)]] w' (RemPost w' Fi x b bi bb (hasOf s) s.groupOf id (wordsOf d.text))) := fun w' hw => by
      have := remove_any x b bi bb Fi (hasOf s) s.groupOf q id d.text w' hw hdm.1 (fun u hu => by rw [hasOf_some hd]; simpa using hu) hdm.2.2.1
      rw [groupOf_some hd] at this; exact this
    have HI : Hid (∀ w3, Fr Fs w w3 → IndexAt w3 Fi x b bi bb (hasOf s) s.groupOf q) := fun w3 f => hb.ix.fr f (fun k hk e => hb.dis k e hk)
    have HF : Hid (∀ w3 w5, Fr Fs w w3 → StoreAt w3 Fs b (s.del id) bd br bg p → (∃ q, IndexAt w5 (fun k => Fi k ∨ Since w3 w5 k) x b bi bb (subN (hasOf s) id (wordsOf d.text) (wordsOf d.text).length) s.groupOf q) → Fr Fi w3 w5 → TurnPost w F x (s.getErr id) (s.delR id) (.returned (.int .i64 0)) w5) := by
      rintro w3 w5 f3 h3 ⟨q', h5⟩ f5
      rw [getErr_some hdm.1 hd, delR_some hd]
      rw [hasOf_del hd] at h5
      have h5' := h5.regrp (grp' := (s.del id).groupOf) (fun u i hu => (groupOf_del (fun e => by subst e; rw [hasOf_id_del] at hu; cases hu)).symm)
      have hS5 := h3.fr f5 (fun k hk e => hb.dis k hk e)
      refine ⟨rfl, ⟨b, bd, br, bg, p, bi, bb, q', Fs, _, ⟨hS5, h5', ?_, ?_, ?_⟩, ?_⟩, ?_⟩
      · rintro k hk (e | e)
        · exact hb.dis k hk e
        · have := hb.ls k hk; have := f3.size; have := e.1; omega
      · intro k hk; have := hb.ls k hk; have := f3.size; have := f5.size; omega
      · rintro k (e | e)
        · have := hb.li k e; have := f3.size; have := f5.size; omega
        · exact e.2
      · rintro k (e | e | e)
        · exact .inl (hF k (.inl e))
        · exact .inl (hF k (.inr e))
        · right; have := f3.size; have := e.1; exact ⟨by omega, e.2⟩
      · exact (f3.mono (fun k _ hk => hF k (.inl hk))).trans' f5 (fun k _ hk => hF k (.inr hk))
    have hls : ∀ k, w.heap.size ≤ k → ¬ Fs k := fun k hk e => by have := hb.ls k e; omega
    have HL : Hid (∀ k, w.heap.size ≤ k → ¬ Fs k) := hls
    clear hb hF hd hf hdm hls
    have hequal := eqDoc
    go_enter Try.func51, Try.ntmps51
    go_wp2_with first
      | (go_at_call 61; refine HG.out.mono ?_; rintro e w1 ⟨rfl, f1⟩
         have hr1 := frNo_cell f1 hr0
         have hx1 : x < w1.heap.size := Nat.lt_of_lt_of_le hxw f1.size)
      | (go_at_call 76; refine (HD.out _ (f1.alloc _)).mono ?_; rintro e w3 ⟨rfl, h3, f3⟩
         have hb1 : w3.heap[w1.heap.size]? = _ := f3.heap (heap_alloc_new w1 _) (HL.out _ f1.size)
         have k0 := cell_of_heap hb1 0
         have k1 := cell_of_heap hb1 1
         have k2 := cell_of_heap hb1 2
         have f03 : Fr Fs w w3 := (f1.any.alloc _).trans f3
         have HS : Hid (StoreAt w3 Fs b (s.del id) bd br bg p ∧ Fr Fs w w3) := ⟨h3, f03⟩
         have hxi := HI.out w3 f03
         have HXI : Hid (IndexAt w3 Fi x b bi bb (hasOf s) s.groupOf q) := hxi
         clear hxi h3 hb1 f3 f03)
      | (go_at_call 63; refine (HR.out _ HXI.out).mono ?_; rintro e w5 ⟨rfl, h5, f5⟩
         have HZ : Hid (TurnPost w F x (s.getErr id) (s.delR id) (.returned (.int .i64 0)) w5) := HF.out _ w5 HS.out.2 HS.out.1 h5 f5
         clear h5 f5)
    go_ret
    exact HZ.out
end
end Go.Proofs.Qxb6500357a
