import Derived.Test.Qxb6500357aOwes
namespace Go.Proofs.Qxb6500357a
open Go.RowKit Go.Tag
set_option linter.unusedVariables false
set_option linter.unusedSimpArgs false
set_option maxRecDepth 100000
attribute [local simp] str_size
attribute [local go_sem] str_size

/-- What the changing steps owe, by the ghost. -/
theorem owes_any (gb t0 g0 x0 p0 : Nat) (s : St) (B : Int) (w : World) (o : Op) (hk : o.k = 1 ∨ o.k = 2 ∨ o.k = 3 ∨ o.k = 10) (h : GhostAt w gb t0 g0 x0 p0 s) (hf : Fine s B) :
    Calls Try.prog 13 #[.pointer (some ⟨gb, 0, none⟩), o.v] w (AskPost w (doA s o).e (doA s o).n (doA s o).s) := by
  obtain ⟨k, A, Bb, C, S, T⟩ := o
  simp only at hk
  unfold Op.v doA
  simp only []
  rcases hk with rfl | rfl | rfl | rfl
  · simp only [if_true]
    unfold St.putErr
    by_cases h1 : 12 < S.length
    · rw [if_pos h1]; exact owesPut_long gb t0 g0 x0 p0 s w A Bb C S T h h1
    rw [if_neg h1]
    by_cases h2 : ¬ (1 ≤ A ∧ A ≤ 9)
    · rw [if_pos h2]; exact owesPut_id gb t0 g0 x0 p0 s w A Bb C S T h (by omega) h2
    rw [if_neg h2]
    obtain ⟨a, rfl⟩ : ∃ a : Nat, A = a := ⟨A.toNat, by omega⟩
    by_cases h3 : ¬ (0 ≤ Bb ∧ Bb ≤ 2)
    · rw [if_pos h3]; exact owesPut_group gb t0 g0 x0 p0 s w Bb C S T a (by omega) h (by omega) h3
    rw [if_neg h3]
    by_cases h4 : textOK S = false
    · rw [if_pos h4]; exact owesPut_text gb t0 g0 x0 p0 s w Bb C S T a (by omega) h (by omega) (by omega) h4
    rw [if_neg h4]
    have h4 : textOK S = true := by simpa using h4
    cases hd : s.docs (a : Int) with
    | none =>
      have := owesPut_new gb t0 g0 x0 p0 s w Bb C S T a (by omega) h (by omega) (by omega) h4 (by rw [hd]; rfl)
      simpa using this
    | some d =>
      rw [if_neg (by simp)]
      exact owesPut_there gb t0 g0 x0 p0 s w Bb C S T a (by omega) h (by omega) (by omega) h4 (by rw [hd]; rfl)
  · rw [if_neg (by decide), if_pos rfl]
    simp only []
    by_cases h2 : 1 ≤ A ∧ A ≤ 9
    · obtain ⟨a, rfl⟩ : ∃ a : Nat, A = a := ⟨A.toNat, by omega⟩
      have := owesDel_good gb t0 g0 x0 p0 s w Bb C S T a (by omega) h
      cases hd : s.docs (a : Int) with
      | none => rw [hd] at this; rw [getErr_none h2 hd]; exact this
      | some d => rw [hd] at this; rw [getErr_some h2 hd]; exact this
    · have e : s.getErr A = 2 := by unfold St.getErr; rw [if_neg h2]
      rw [e]; exact owesDel_bad gb t0 g0 x0 p0 s w A Bb C S T h h2
  · rw [if_neg (by decide), if_neg (by decide), if_pos rfl]
    exact owesDrop_any gb t0 g0 x0 p0 s w A Bb C S T h
  · rw [if_neg (by decide), if_neg (by decide), if_neg (by decide), if_neg (by decide), if_neg (by decide), if_neg (by decide), if_neg (by decide), if_neg (by decide), if_pos rfl]
    exact owesReset_any gb t0 g0 x0 p0 s w A Bb C S T h

/-- The documents behind the first rounds: those of P below j have gone. -/
def turnTo (s : St) (P : Int → Bool) (j : Nat) : St := ⟨fun i => if P i && decide (i < (j : Int)) then none else s.docs i, s.revs⟩
theorem turnTo_docs (s : St) (P : Int → Bool) (j : Nat) (i : Int) : (turnTo s P j).docs i = if P i && decide (i < (j : Int)) then none else s.docs i := rfl
theorem turnTo_one {s : St} {B : Int} (hf : Fine s B) (P : Int → Bool) : turnTo s P 1 = s := by
  have : (turnTo s P 1).docs = s.docs := by
    funext i; rw [turnTo_docs]
    split
    · next h =>
      simp at h
      exact (hf.docs_none (by omega)).symm
    · rfl
  show St.mk (turnTo s P 1).docs s.revs = s
  rw [this]
theorem turnTo_other (s : St) (P : Int → Bool) (j : Nat) {i : Int} (h : i ≠ (j : Int)) : (turnTo s P (j + 1)).docs i = (turnTo s P j).docs i := by
  rw [turnTo_docs, turnTo_docs]
  have : decide (i < ((j + 1 : Nat) : Int)) = decide (i < (j : Int)) := by apply decide_eq_decide.2; omega
  rw [this]
theorem turnTo_at (s : St) (P : Int → Bool) (j : Nat) : (turnTo s P j).docs (j : Int) = s.docs (j : Int) := by
  rw [turnTo_docs]; simp
theorem turnTo_gone (s : St) (P : Int → Bool) (j : Nat) (h : P (j : Int) = true) : (turnTo s P (j + 1)).docs (j : Int) = none := by
  rw [turnTo_docs, if_pos]; simp [h]; omega
theorem turnTo_same (s : St) (P : Int → Bool) (j : Nat) (h : P (j : Int) = false ∨ s.docs (j : Int) = none) : turnTo s P (j + 1) = turnTo s P j := by
  have : (turnTo s P (j + 1)).docs = (turnTo s P j).docs := by
    funext i
    by_cases hi : i = (j : Int)
    · subst hi
      rw [turnTo_at, turnTo_docs]
      rcases h with h | h
      · simp [h]
      · rw [h]; split <;> rfl
    · exact turnTo_other s P j hi
  show St.mk (turnTo s P (j + 1)).docs s.revs = St.mk (turnTo s P j).docs s.revs
  rw [this]
theorem turnTo_len (s : St) (P : Int → Bool) (j : Nat) (hj : 1 ≤ j ∧ j ≤ 9) (h : P (j : Int) = true) (hd : (s.docs (j : Int)).isSome = true) : (turnTo s P j).ids.length = (turnTo s P (j + 1)).ids.length + 1 := by
  have := size_upd (s := turnTo s P (j + 1)) (t := turnTo s P j) (id := (j : Int)) (by omega) (fun i hi => turnTo_other s P j hi)
  rw [turnTo_at, turnTo_gone s P j h, hd] at this
  simpa using this.symm

theorem GhostR.heap {w w' : World} {gb t0 g0 x0 p0 : Nat} {ft fg fx fp : Nat → Value} {n : Int} (h : GhostR w gb t0 g0 x0 p0 ft fg fx fp n) (e : w'.heap = w.heap) : GhostR w' gb t0 g0 x0 p0 ft fg fx fp n :=
  ⟨by rw [e]; exact h.root, h.there.keep (by rw [e]), h.group.keep (by rw [e]), h.text.keep (by rw [e]), h.puts.keep (by rw [e]), h.ne⟩
/-- One place of the ghost emptied. -/
theorem ghost_gone {w : World} {gb t0 g0 x0 p0 : Nat} {s : St} {P : Int → Bool} {j : Nat} (h : GhostAt w gb t0 g0 x0 p0 (turnTo s P j)) (hj : 1 ≤ j ∧ j ≤ 9) (hP : P (j : Int) = true) (hd : (s.docs (j : Int)).isSome = true) :
    GhostAt ((((w.setCell ⟨t0, j, none⟩ (.bool false)).setCell ⟨g0, j, none⟩ (.int .i64 0)).setCell ⟨x0, j, none⟩ (.string (str []))).setCell ⟨gb, 4, none⟩ (.int .i64 (((turnTo s P j).ids.length : Int) - 1))) gb t0 g0 x0 p0 (turnTo s P (j + 1)) := by
  have h10 : j < 10 := by omega
  have hg := turnTo_gone s P j hP
  have ho : ∀ i : Nat, i ≠ j → (turnTo s P (j + 1)).docs (i : Int) = (turnTo s P j).docs (i : Int) := fun i hi => turnTo_other s P j (by omega)
  refine ((((h.setT h10 _).setG h10 _).setX h10 _).setN _).congr (fun i hi => ?_) (fun i hi => ?_) (fun i hi => ?_) (fun i hi => rfl) ?_
  · unfold updN gT
    by_cases e : i = j
    · subst e; rw [if_pos rfl, hg]; rfl
    · rw [if_neg e, ho i e]
  · unfold updN gG St.groupOf
    by_cases e : i = j
    · subst e; rw [if_pos rfl, hg]
    · rw [if_neg e, ho i e]
  · unfold updN gX St.textOf
    by_cases e : i = j
    · subst e; rw [if_pos rfl, hg]
    · rw [if_neg e, ho i e]
  · have := turnTo_len s P j hj hP hd
    omega
/-- The turn's loop. -/
structure TurnI (w : World) (gb t0 g0 x0 p0 : Nat) (s : St) (P : Int → Bool) (bx : Obj) (j : Nat) (wr : World) : Prop where
  g : GhostAt wr gb t0 g0 x0 p0 (turnTo s P j)
  box : wr.heap[w.heap.size]? = some bx
  fr : Fr (gOne gb t0 g0 x0 p0) w wr
theorem TurnI.draw {w : World} {gb t0 g0 x0 p0 : Nat} {s : St} {P : Int → Bool} {bx : Obj} {j : Nat} {wr : World} (h : TurnI w gb t0 g0 x0 p0 s P bx j wr) (n : Nat) : TurnI w gb t0 g0 x0 p0 s P bx j (wr.drewN n) :=
  ⟨GhostR.heap h.g rfl, h.box, h.fr.drewN n⟩
theorem TurnI.draw1 {w : World} {gb t0 g0 x0 p0 : Nat} {s : St} {P : Int → Bool} {bx : Obj} {j : Nat} {wr : World} (h : TurnI w gb t0 g0 x0 p0 s P bx j wr) : TurnI w gb t0 g0 x0 p0 s P bx j wr.drew :=
  ⟨GhostR.heap h.g rfl, h.box, h.fr.drew⟩
theorem TurnI.stay {w : World} {gb t0 g0 x0 p0 : Nat} {s : St} {P : Int → Bool} {bx : Obj} {j : Nat} {wr : World} (h : TurnI w gb t0 g0 x0 p0 s P bx j wr) (hs : P (j : Int) = false ∨ s.docs (j : Int) = none) : TurnI w gb t0 g0 x0 p0 s P bx (j + 1) wr :=
  ⟨by rw [turnTo_same s P j hs]; exact h.g, h.box, h.fr⟩
theorem TurnI.gone {w : World} {gb t0 g0 x0 p0 : Nat} {s : St} {P : Int → Bool} {bx : Obj} {j : Nat} {wr : World} (h : TurnI w gb t0 g0 x0 p0 s P bx j wr) (hj : 1 ≤ j ∧ j ≤ 9) (hP : P (j : Int) = true) (hd : (s.docs (j : Int)).isSome = true) (hl : ∀ k, gOne gb t0 g0 x0 p0 k → k ≠ w.heap.size) :
    TurnI w gb t0 g0 x0 p0 s P bx (j + 1) ((((wr.setCell ⟨t0, j, none⟩ (.bool false)).setCell ⟨g0, j, none⟩ (.int .i64 0)).setCell ⟨x0, j, none⟩ (.string (str []))).setCell ⟨gb, 4, none⟩ (.int .i64 (((turnTo s P j).ids.length : Int) - 1))) := by
  have f : Fr (gOne gb t0 g0 x0 p0) wr ((((wr.setCell ⟨t0, j, none⟩ (.bool false)).setCell ⟨g0, j, none⟩ (.int .i64 0)).setCell ⟨x0, j, none⟩ (.string (str []))).setCell ⟨gb, 4, none⟩ (.int .i64 (((turnTo s P j).ids.length : Int) - 1))) :=
    ((((Fr.refl (gOne gb t0 g0 x0 p0) wr).setCell (p := ⟨t0, j, none⟩) (.inr (.inr (.inl rfl))) _).setCell (p := ⟨g0, j, none⟩) (.inr (.inr (.inr (.inl rfl)))) _).setCell (p := ⟨x0, j, none⟩) (.inr (.inr (.inr (.inr (.inl rfl))))) _).setCell (p := ⟨gb, 4, none⟩) (.inr (.inl rfl)) _
  exact ⟨ghost_gone h.g hj hP hd, f.heap h.box (fun e => hl _ e rfl), h.fr.trans f⟩

section
variable (gb t0 g0 x0 p0 : Nat) (s : St) (B : Int) (w : World) (A Bb C : Int) (S T : List UInt8)
def TurnsPost (w : World) (gb t0 g0 x0 p0 : Nat) (s' : St) (e : Ending) (w' : World) : Prop := e = .returned (.tuple #[]) ∧ GhostAt w' gb t0 g0 x0 p0 s' ∧ Fr (gOne gb t0 g0 x0 p0) w w'
set_option maxHeartbeats 2000000 in
theorem turnReset_any (h : GhostAt w gb t0 g0 x0 p0 s) (hf : Fine s B) : Calls Try.prog 14 #[.pointer (some ⟨gb, 0, none⟩), opV 10 A Bb C S T] w (TurnsPost w gb t0 g0 x0 p0 (turnTo s (fun _ => true) 10)) := by
  have HI : Hid (TurnI w gb t0 g0 x0 p0 s (fun _ => true) (.cells #[.int .i64 10, .int .i64 A, .int .i64 Bb, .int .i64 C, .string (str S), .string (str T)] 39) 1 (w.alloc (.cells #[.int .i64 10, .int .i64 A, .int .i64 Bb, .int .i64 C, .string (str S), .string (str T)] 39))) :=
    ⟨by rw [turnTo_one hf]; exact GhostR.fr h ((Fr.refl No w).alloc _) (fun _ _ h => h), heap_alloc_new _ _, (Fr.refl _ _).alloc _⟩
  have HL : Hid (∀ k, gOne gb t0 g0 x0 p0 k → k ≠ w.heap.size) := fun k hk => by have := GhostR.lt h k hk; omega
  have HN9 : Hid (∀ j, (turnTo s (fun _ => true) j).ids.length ≤ 9) := fun j => ids_le _
  have HPG : Hid (∀ j : Nat, (fun _ => true) (j : Int) = true) := fun j => rfl
  have HPN : Hid (∀ j : Nat, (turnTo s (fun _ => true) j).docs (j : Int) = s.docs (j : Int)) := fun j => turnTo_at s (fun _ => true) j
  generalize (fun _ => true) = P at *
  clear h hf
  unfold opV
  go_enter Try.func14, Try.ntmps14
  go_wp2
  go_loopw [4] (fun i wr => ∃ j : Nat, (1 ≤ j ∧ j ≤ 10) ∧ i = .int .i64 j ∧ TurnI w gb t0 g0 x0 p0 s P (.cells #[.int .i64 10, .int .i64 A, .int .i64 Bb, .int .i64 C, .string (str S), .string (str T)] 39) j wr) (fun i _ => 10 - (intOf i).toNat)
  case atStart => exact ⟨1, by omega, rfl, HI.out⟩
  case round =>
    obtain ⟨j, hj, rfl, hI⟩ := hrel
    have hlt' := GhostR.lt hI.g
    have hgw := hlt' gb (.inl rfl)
    have htw := hlt' t0 (.inr (.inl rfl))
    have hqw := hlt' g0 (.inr (.inr (.inl rfl)))
    have hxw := hlt' x0 (.inr (.inr (.inr (.inl rfl))))
    have hbw := lt_of_heap hI.box
    obtain ⟨c0, c1, c2, c3, c4⟩ := GhostR.cells hI.g
    have a0 := cell_of_heap hI.box 0
    have a1 := cell_of_heap hI.box 1
    simp only [List.getElem?_toArray, List.getElem?_cons_zero, List.getElem?_cons_succ] at a0 a1
    obtain ⟨n1, n2, n3, n4, n5, n6, n7, n8, n9, n10⟩ := hI.g.ne
    have z1 := HL.out gb (.inl rfl)
    have z2 := HL.out t0 (.inr (.inl rfl))
    have z3 := HL.out g0 (.inr (.inr (.inl rfl)))
    have z4 := HL.out x0 (.inr (.inr (.inr (.inl rfl))))
    have fzt := hI.g.there.frozen
    have fzg := hI.g.group.frozen
    have fzx := hI.g.text.frozen
    have fzb := frozen_of_heap hI.g.root
    have hnn := HN9.out j
    by_cases hlt : j ≤ 9
    · have ct := hI.g.there.cell (i := j) (by omega)
      have cg := hI.g.group.cell (i := j) (by omega)
      have cx := hI.g.text.cell (i := j) (by omega)
      unfold gT at ct
      unfold gG at cg
      unfold gX at cx
      have hl9 : (j : Int) ≤ 9 := by omega
      have hat := HPN.out j
      rw [hat] at ct
      have hPj := HPG.out j
      have hj1 : 1 ≤ j := hj.1
      have HI2 : Hid (TurnI w gb t0 g0 x0 p0 s P (.cells #[.int .i64 10, .int .i64 A, .int .i64 Bb, .int .i64 C, .string (str S), .string (str T)] 39) j wr) := hI
      have HJ : Hid (1 ≤ j ∧ j ≤ 9) := ⟨hj.1, hlt⟩
      cases hd : (s.docs (j : Int)).isSome with
      | false =>
        rw [hd] at ct
        have HK : Hid (∀ n, TurnI w gb t0 g0 x0 p0 s P (.cells #[.int .i64 10, .int .i64 A, .int .i64 Bb, .int .i64 C, .string (str S), .string (str T)] 39) (j + 1) (wr.drewN n)) := fun n => (HI2.out.stay (.inr (by simpa using hd))).draw n
        clear hI hat hPj hd 
        go_wp2
        go_quiet (fail)
        go_wp2
        go_roundw
        case rel => exact ⟨j + 1, by omega, by go_num, HK.out _⟩
        case measure => simp [intOf]; omega
      | true =>
        rw [hd] at ct
        have HK : Hid (∀ n, TurnI w gb t0 g0 x0 p0 s P (.cells #[.int .i64 10, .int .i64 A, .int .i64 Bb, .int .i64 C, .string (str S), .string (str T)] 39) (j + 1) (((((wr.drewN n).setCell ⟨t0, j, none⟩ (.bool false)).setCell ⟨g0, j, none⟩ (.int .i64 0)).setCell ⟨x0, j, none⟩ (.string (str []))).setCell ⟨gb, 4, none⟩ (.int .i64 (((turnTo s P j).ids.length : Int) - 1)))) := fun n => (HI2.out.draw n).gone HJ.out (by rw [hPj]) hd HL.out
        have hwc : IntKind.i64.wrap (((turnTo s P j).ids.length : Int) - 1) = ((turnTo s P j).ids.length : Int) - 1 := wrap_i64 _ (by omega) (by omega)
        clear hI hat hd hPj 
        go_wp2
        go_quiet (fail)
        go_wp2
        go_region
        go_wp2
        go_roundw
        case rel => exact ⟨j + 1, by omega, by go_num, HK.out _⟩
        case measure => simp [intOf]; omega

    · have hj10 : j = 10 := by omega
      subst hj10
      have HE : Hid (TurnsPost w gb t0 g0 x0 p0 (turnTo s P 10) (.returned (.tuple #[])) wr) := ⟨rfl, hI.g, hI.fr⟩
      clear hI
      go_wp2
      go_end0
      exact HE.out
set_option maxHeartbeats 2000000 in
theorem turnDel_any (h : GhostAt w gb t0 g0 x0 p0 s) (hf : Fine s B) : Calls Try.prog 14 #[.pointer (some ⟨gb, 0, none⟩), opV 2 A Bb C S T] w (TurnsPost w gb t0 g0 x0 p0 (turnTo s (fun i => decide (i = A)) 10)) := by
  have HI : Hid (TurnI w gb t0 g0 x0 p0 s (fun i => decide (i = A)) (.cells #[.int .i64 2, .int .i64 A, .int .i64 Bb, .int .i64 C, .string (str S), .string (str T)] 39) 1 (w.alloc (.cells #[.int .i64 2, .int .i64 A, .int .i64 Bb, .int .i64 C, .string (str S), .string (str T)] 39))) :=
    ⟨by rw [turnTo_one hf]; exact GhostR.fr h ((Fr.refl No w).alloc _) (fun _ _ h => h), heap_alloc_new _ _, (Fr.refl _ _).alloc _⟩
  have HL : Hid (∀ k, gOne gb t0 g0 x0 p0 k → k ≠ w.heap.size) := fun k hk => by have := GhostR.lt h k hk; omega
  have HN9 : Hid (∀ j, (turnTo s (fun i => decide (i = A)) j).ids.length ≤ 9) := fun j => ids_le _
  have HPG : Hid (∀ j : Nat, (fun i => decide (i = A)) (j : Int) = decide ((j : Int) = A)) := fun j => rfl
  have HPN : Hid (∀ j : Nat, (turnTo s (fun i => decide (i = A)) j).docs (j : Int) = s.docs (j : Int)) := fun j => turnTo_at s (fun i => decide (i = A)) j
  generalize (fun i => decide (i = A)) = P at *
  clear h hf
  unfold opV
  go_enter Try.func14, Try.ntmps14
  go_wp2
  go_loopw [4] (fun i wr => ∃ j : Nat, (1 ≤ j ∧ j ≤ 10) ∧ i = .int .i64 j ∧ TurnI w gb t0 g0 x0 p0 s P (.cells #[.int .i64 2, .int .i64 A, .int .i64 Bb, .int .i64 C, .string (str S), .string (str T)] 39) j wr) (fun i _ => 10 - (intOf i).toNat)
  case atStart => exact ⟨1, by omega, rfl, HI.out⟩
  case round =>
    obtain ⟨j, hj, rfl, hI⟩ := hrel
    have hlt' := GhostR.lt hI.g
    have hgw := hlt' gb (.inl rfl)
    have htw := hlt' t0 (.inr (.inl rfl))
    have hqw := hlt' g0 (.inr (.inr (.inl rfl)))
    have hxw := hlt' x0 (.inr (.inr (.inr (.inl rfl))))
    have hbw := lt_of_heap hI.box
    obtain ⟨c0, c1, c2, c3, c4⟩ := GhostR.cells hI.g
    have a0 := cell_of_heap hI.box 0
    have a1 := cell_of_heap hI.box 1
    simp only [List.getElem?_toArray, List.getElem?_cons_zero, List.getElem?_cons_succ] at a0 a1
    obtain ⟨n1, n2, n3, n4, n5, n6, n7, n8, n9, n10⟩ := hI.g.ne
    have z1 := HL.out gb (.inl rfl)
    have z2 := HL.out t0 (.inr (.inl rfl))
    have z3 := HL.out g0 (.inr (.inr (.inl rfl)))
    have z4 := HL.out x0 (.inr (.inr (.inr (.inl rfl))))
    have fzt := hI.g.there.frozen
    have fzg := hI.g.group.frozen
    have fzx := hI.g.text.frozen
    have fzb := frozen_of_heap hI.g.root
    have hnn := HN9.out j
    by_cases hlt : j ≤ 9
    · have ct := hI.g.there.cell (i := j) (by omega)
      have cg := hI.g.group.cell (i := j) (by omega)
      have cx := hI.g.text.cell (i := j) (by omega)
      unfold gT at ct
      unfold gG at cg
      unfold gX at cx
      have hl9 : (j : Int) ≤ 9 := by omega
      have hat := HPN.out j
      rw [hat] at ct
      have hPj := HPG.out j
      have hj1 : 1 ≤ j := hj.1
      have HI2 : Hid (TurnI w gb t0 g0 x0 p0 s P (.cells #[.int .i64 2, .int .i64 A, .int .i64 Bb, .int .i64 C, .string (str S), .string (str T)] 39) j wr) := hI
      have HJ : Hid (1 ≤ j ∧ j ≤ 9) := ⟨hj.1, hlt⟩
      by_cases hA : (j : Int) = A
      · have hjA : ((j : Int) == A) = true := by simp [hA]
        cases hd : (s.docs (j : Int)).isSome with
        | false =>
          rw [hd] at ct
          have HK : Hid (∀ n, TurnI w gb t0 g0 x0 p0 s P (.cells #[.int .i64 2, .int .i64 A, .int .i64 Bb, .int .i64 C, .string (str S), .string (str T)] 39) (j + 1) (wr.drewN n)) := fun n => (HI2.out.stay (.inr (by simpa using hd))).draw n
          clear hI hat hPj hd hA
          go_wp2
          go_quiet (fail)
          go_wp2
          go_roundw
          case rel => exact ⟨j + 1, by omega, by go_num, HK.out _⟩
          case measure => simp [intOf]; omega
        | true =>
          rw [hd] at ct
          have HK : Hid (∀ n, TurnI w gb t0 g0 x0 p0 s P (.cells #[.int .i64 2, .int .i64 A, .int .i64 Bb, .int .i64 C, .string (str S), .string (str T)] 39) (j + 1) (((((wr.drewN n).setCell ⟨t0, j, none⟩ (.bool false)).setCell ⟨g0, j, none⟩ (.int .i64 0)).setCell ⟨x0, j, none⟩ (.string (str []))).setCell ⟨gb, 4, none⟩ (.int .i64 (((turnTo s P j).ids.length : Int) - 1)))) := fun n => (HI2.out.draw n).gone HJ.out (by rw [hPj]; simp [hA]) hd HL.out
          have hwc : IntKind.i64.wrap (((turnTo s P j).ids.length : Int) - 1) = ((turnTo s P j).ids.length : Int) - 1 := wrap_i64 _ (by omega) (by omega)
          clear hI hat hd hPj hA
          go_wp2
          go_quiet (fail)
          go_wp2
          go_region
          go_wp2
          go_roundw
          case rel => exact ⟨j + 1, by omega, by go_num, HK.out _⟩
          case measure => simp [intOf]; omega
      · have hjA : ((j : Int) == A) = false := by simp [hA]
        have HK : Hid (∀ n, TurnI w gb t0 g0 x0 p0 s P (.cells #[.int .i64 2, .int .i64 A, .int .i64 Bb, .int .i64 C, .string (str S), .string (str T)] 39) (j + 1) (wr.drewN n)) := fun n => (HI2.out.stay (.inl (by rw [hPj]; simp [hA]))).draw n
        clear hI hat hPj hA
        go_wp2
        go_quiet (fail)
        go_wp2
        go_roundw
        case rel => exact ⟨j + 1, by omega, by go_num, HK.out _⟩
        case measure => simp [intOf]; omega

    · have hj10 : j = 10 := by omega
      subst hj10
      have HE : Hid (TurnsPost w gb t0 g0 x0 p0 (turnTo s P 10) (.returned (.tuple #[])) wr) := ⟨rfl, hI.g, hI.fr⟩
      clear hI
      go_wp2
      go_end0
      exact HE.out
set_option maxHeartbeats 2000000 in
theorem turnDrop_any (h : GhostAt w gb t0 g0 x0 p0 s) (hf : Fine s B) : Calls Try.prog 14 #[.pointer (some ⟨gb, 0, none⟩), opV 3 A Bb C S T] w (TurnsPost w gb t0 g0 x0 p0 (turnTo s (fun i => decide (s.groupOf i = A)) 10)) := by
  have HI : Hid (TurnI w gb t0 g0 x0 p0 s (fun i => decide (s.groupOf i = A)) (.cells #[.int .i64 3, .int .i64 A, .int .i64 Bb, .int .i64 C, .string (str S), .string (str T)] 39) 1 (w.alloc (.cells #[.int .i64 3, .int .i64 A, .int .i64 Bb, .int .i64 C, .string (str S), .string (str T)] 39))) :=
    ⟨by rw [turnTo_one hf]; exact GhostR.fr h ((Fr.refl No w).alloc _) (fun _ _ h => h), heap_alloc_new _ _, (Fr.refl _ _).alloc _⟩
  have HL : Hid (∀ k, gOne gb t0 g0 x0 p0 k → k ≠ w.heap.size) := fun k hk => by have := GhostR.lt h k hk; omega
  have HN9 : Hid (∀ j, (turnTo s (fun i => decide (s.groupOf i = A)) j).ids.length ≤ 9) := fun j => ids_le _
  have HPG : Hid (∀ j : Nat, (fun i => decide (s.groupOf i = A)) (j : Int) = decide (s.groupOf (j : Int) = A)) := fun j => rfl
  have HPN : Hid (∀ j : Nat, (turnTo s (fun i => decide (s.groupOf i = A)) j).docs (j : Int) = s.docs (j : Int)) := fun j => turnTo_at s (fun i => decide (s.groupOf i = A)) j
  generalize (fun i => decide (s.groupOf i = A)) = P at *
  clear h hf
  unfold opV
  go_enter Try.func14, Try.ntmps14
  go_wp2
  go_loopw [4] (fun i wr => ∃ j : Nat, (1 ≤ j ∧ j ≤ 10) ∧ i = .int .i64 j ∧ TurnI w gb t0 g0 x0 p0 s P (.cells #[.int .i64 3, .int .i64 A, .int .i64 Bb, .int .i64 C, .string (str S), .string (str T)] 39) j wr) (fun i _ => 10 - (intOf i).toNat)
  case atStart => exact ⟨1, by omega, rfl, HI.out⟩
  case round =>
    obtain ⟨j, hj, rfl, hI⟩ := hrel
    have hlt' := GhostR.lt hI.g
    have hgw := hlt' gb (.inl rfl)
    have htw := hlt' t0 (.inr (.inl rfl))
    have hqw := hlt' g0 (.inr (.inr (.inl rfl)))
    have hxw := hlt' x0 (.inr (.inr (.inr (.inl rfl))))
    have hbw := lt_of_heap hI.box
    obtain ⟨c0, c1, c2, c3, c4⟩ := GhostR.cells hI.g
    have a0 := cell_of_heap hI.box 0
    have a1 := cell_of_heap hI.box 1
    simp only [List.getElem?_toArray, List.getElem?_cons_zero, List.getElem?_cons_succ] at a0 a1
    obtain ⟨n1, n2, n3, n4, n5, n6, n7, n8, n9, n10⟩ := hI.g.ne
    have z1 := HL.out gb (.inl rfl)
    have z2 := HL.out t0 (.inr (.inl rfl))
    have z3 := HL.out g0 (.inr (.inr (.inl rfl)))
    have z4 := HL.out x0 (.inr (.inr (.inr (.inl rfl))))
    have fzt := hI.g.there.frozen
    have fzg := hI.g.group.frozen
    have fzx := hI.g.text.frozen
    have fzb := frozen_of_heap hI.g.root
    have hnn := HN9.out j
    by_cases hlt : j ≤ 9
    · have ct := hI.g.there.cell (i := j) (by omega)
      have cg := hI.g.group.cell (i := j) (by omega)
      have cx := hI.g.text.cell (i := j) (by omega)
      unfold gT at ct
      unfold gG at cg
      unfold gX at cx
      have hl9 : (j : Int) ≤ 9 := by omega
      have hat := HPN.out j
      rw [hat] at ct
      have hPj := HPG.out j
      have hj1 : 1 ≤ j := hj.1
      have HI2 : Hid (TurnI w gb t0 g0 x0 p0 s P (.cells #[.int .i64 3, .int .i64 A, .int .i64 Bb, .int .i64 C, .string (str S), .string (str T)] 39) j wr) := hI
      have HJ : Hid (1 ≤ j ∧ j ≤ 9) := ⟨hj.1, hlt⟩
      have hgj : (turnTo s P j).groupOf (j : Int) = s.groupOf (j : Int) := by unfold St.groupOf; rw [hat]
      rw [hgj] at cg
      clear hgj
      by_cases hA : s.groupOf (j : Int) = A
      · have hjA : (s.groupOf (j : Int) == A) = true := by simp [hA]
        cases hd : (s.docs (j : Int)).isSome with
        | false =>
          rw [hd] at ct
          have HK : Hid (∀ n, TurnI w gb t0 g0 x0 p0 s P (.cells #[.int .i64 3, .int .i64 A, .int .i64 Bb, .int .i64 C, .string (str S), .string (str T)] 39) (j + 1) (wr.drewN n)) := fun n => (HI2.out.stay (.inr (by simpa using hd))).draw n
          clear hI hat hPj hd hA
          go_wp2
          go_quiet (fail)
          go_wp2
          go_roundw
          case rel => exact ⟨j + 1, by omega, by go_num, HK.out _⟩
          case measure => simp [intOf]; omega
        | true =>
          rw [hd] at ct
          have HK : Hid (∀ n, TurnI w gb t0 g0 x0 p0 s P (.cells #[.int .i64 3, .int .i64 A, .int .i64 Bb, .int .i64 C, .string (str S), .string (str T)] 39) (j + 1) (((((wr.drewN n).setCell ⟨t0, j, none⟩ (.bool false)).setCell ⟨g0, j, none⟩ (.int .i64 0)).setCell ⟨x0, j, none⟩ (.string (str []))).setCell ⟨gb, 4, none⟩ (.int .i64 (((turnTo s P j).ids.length : Int) - 1)))) := fun n => (HI2.out.draw n).gone HJ.out (by rw [hPj]; simp [hA]) hd HL.out
          have hwc : IntKind.i64.wrap (((turnTo s P j).ids.length : Int) - 1) = ((turnTo s P j).ids.length : Int) - 1 := wrap_i64 _ (by omega) (by omega)
          clear hI hat hd hPj hA
          go_wp2
          go_quiet (fail)
          go_wp2
          go_region
          go_wp2
          go_roundw
          case rel => exact ⟨j + 1, by omega, by go_num, HK.out _⟩
          case measure => simp [intOf]; omega
      · have hjA : (s.groupOf (j : Int) == A) = false := by simp [hA]
        have HK : Hid (∀ n, TurnI w gb t0 g0 x0 p0 s P (.cells #[.int .i64 3, .int .i64 A, .int .i64 Bb, .int .i64 C, .string (str S), .string (str T)] 39) (j + 1) (wr.drewN n)) := fun n => (HI2.out.stay (.inl (by rw [hPj]; simp [hA]))).draw n
        clear hI hat hPj hA
        go_wp2
        go_quiet (fail)
        go_wp2
        go_roundw
        case rel => exact ⟨j + 1, by omega, by go_num, HK.out _⟩
        case measure => simp [intOf]; omega

    · have hj10 : j = 10 := by omega
      subst hj10
      have HE : Hid (TurnsPost w gb t0 g0 x0 p0 (turnTo s P 10) (.returned (.tuple #[])) wr) := ⟨rfl, hI.g, hI.fr⟩
      clear hI
      go_wp2
      go_end0
      exact HE.out
end
end Go.Proofs.Qxb6500357a
