import Derived.Test.Qxb6500357aTurn
import Derived.Deep.CutRange
import Derived.Deep.RegionHeld3
namespace Go.Proofs.Qxb6500357a
open Go.RowKit Go.Tag
set_option linter.unusedVariables false
set_option linter.unusedSimpArgs false
set_option maxRecDepth 100000
attribute [local simp] str_size
attribute [local go_sem] str_size

theorem ghost_put {w : World} {gb t0 g0 x0 p0 : Nat} {s : St} {a : Nat} {d : Doc} {n : Int} (h : GhostR w gb t0 g0 x0 p0 (gT s) (gG s) (gX s) (gP s) n) (ha : 1 ≤ a ∧ a ≤ 9) (hn : n = ((s.put (a : Int) d).ids.length : Int)) :
    GhostAt ((((w.setCell ⟨t0, a, none⟩ (.bool true)).setCell ⟨g0, a, none⟩ (.int .i64 d.group)).setCell ⟨x0, a, none⟩ (.string (str d.text))).setCell ⟨p0, a, none⟩ (.int .i64 (s.revs (a : Int) + 1))) gb t0 g0 x0 p0 (s.put (a : Int) d) := by
  have h10 : a < 10 := by omega
  have hg := put_docs s (a : Int) d
  have ho : ∀ i : Nat, i ≠ a → (s.put (a : Int) d).docs (i : Int) = s.docs (i : Int) := fun i hi => put_other s d (by omega)
  refine ((((h.setT h10 _).setG h10 _).setX h10 _).setP h10 _).congr (fun i hi => ?_) (fun i hi => ?_) (fun i hi => ?_) (fun i hi => ?_) hn.symm
  · unfold updN gT
    by_cases e : i = a
    · subst e; rw [if_pos rfl, hg]; rfl
    · rw [if_neg e, ho i e]
  · unfold updN gG St.groupOf
    by_cases e : i = a
    · subst e; rw [if_pos rfl, hg]
    · rw [if_neg e, ho i e]
  · unfold updN gX St.textOf
    by_cases e : i = a
    · subst e; rw [if_pos rfl, hg]
    · rw [if_neg e, ho i e]
  · unfold updN gP
    show Value.int .i64 (if (i : Int) = (a : Int) then s.revs i + 1 else s.revs i) = _
    by_cases e : i = a
    · subst e; rw [if_pos rfl, if_pos rfl]
    · rw [if_neg e, if_neg (by omega)]
theorem fr_put {w : World} {gb t0 g0 x0 p0 a : Nat} (v1 v2 v3 v4 : Value) : Fr (gOne gb t0 g0 x0 p0) w ((((w.setCell ⟨t0, a, none⟩ v1).setCell ⟨g0, a, none⟩ v2).setCell ⟨x0, a, none⟩ v3).setCell ⟨p0, a, none⟩ v4) :=
  ((((Fr.refl (gOne gb t0 g0 x0 p0) w).setCell (p := ⟨t0, a, none⟩) (.inr (.inr (.inl rfl))) _).setCell (p := ⟨g0, a, none⟩) (.inr (.inr (.inr (.inl rfl)))) _).setCell (p := ⟨x0, a, none⟩) (.inr (.inr (.inr (.inr (.inl rfl))))) _).setCell (p := ⟨p0, a, none⟩) (.inr (.inr (.inr (.inr (.inr rfl))))) _
theorem turnTo_none (s : St) (j : Nat) : turnTo s (fun _ => false) j = s := by
  have : (turnTo s (fun _ => false) j).docs = s.docs := by funext i; rw [turnTo_docs]; simp
  show St.mk (turnTo s (fun _ => false) j).docs s.revs = s
  rw [this]

structure PutCut (w : World) (gb t0 g0 x0 p0 : Nat) (s : St) (a : Nat) (d : Doc) (bx : Obj) (wx : World) : Prop where
  g : GhostR wx gb t0 g0 x0 p0 (gT s) (gG s) (gX s) (gP s) ((s.put (a : Int) d).ids.length : Int)
  box : wx.heap[w.heap.size]? = some bx
  fr : Fr (gOne gb t0 g0 x0 p0) w wx
theorem Hid.int {a : Nat} (h : Hid (1 ≤ a ∧ a ≤ 9)) : 1 ≤ (a : Int) ∧ (a : Int) ≤ 9 := by have := h.out; omega

section
variable (gb t0 g0 x0 p0 : Nat) (s : St) (B : Int) (w : World) (Bb C : Int) (S T : List UInt8)
set_option maxHeartbeats 2000000 in
theorem turnPut_any (a : Nat) (ha : 1 ≤ a ∧ a ≤ 9) (h : GhostAt w gb t0 g0 x0 p0 s) (hf : Fine s B) (hB : B < 1000000000000000000) : Calls Try.prog 14 #[.pointer (some ⟨gb, 0, none⟩), opV 1 a Bb C S T] w (TurnsPost w gb t0 g0 x0 p0 (s.put (a : Int) ⟨Bb, S⟩)) := by
  have HI : Hid (TurnI w gb t0 g0 x0 p0 s (fun _ => false) (.cells #[.int .i64 1, .int .i64 a, .int .i64 Bb, .int .i64 C, .string (str S), .string (str T)] 39) 1 (w.alloc (.cells #[.int .i64 1, .int .i64 a, .int .i64 Bb, .int .i64 C, .string (str S), .string (str T)] 39))) :=
    ⟨by rw [turnTo_one hf]; exact GhostR.fr h ((Fr.refl No w).alloc _) (fun _ _ h => h), heap_alloc_new _ _, (Fr.refl _ _).alloc _⟩
  have HL : Hid (∀ k, gOne gb t0 g0 x0 p0 k → k ≠ w.heap.size) := fun k hk => by have := GhostR.lt h k hk; omega
  have HA : Hid (1 ≤ a ∧ a ≤ 9) := ha
  have HR : Hid (0 ≤ s.revs (a : Int) ∧ s.revs (a : Int) ≤ B) := hf.revs _
  have HB : Hid (B < 1000000000000000000) := hB
  clear h hf ha hB
  unfold opV
  go_enter Try.func14, Try.ntmps14
  go_wp2
  go_loopw [4] (fun i wr => ∃ j : Nat, (1 ≤ j ∧ j ≤ 10) ∧ i = .int .i64 j ∧ TurnI w gb t0 g0 x0 p0 s (fun _ => false) (.cells #[.int .i64 1, .int .i64 a, .int .i64 Bb, .int .i64 C, .string (str S), .string (str T)] 39) j wr) (fun i _ => 10 - (intOf i).toNat)
  case atStart => exact ⟨1, by omega, rfl, HI.out⟩
  case round =>
    obtain ⟨j, hj, rfl, hI⟩ := hrel
    have hlt' := GhostR.lt hI.g
    have hgw := hlt' gb (.inl rfl)
    have htw := hlt' t0 (.inr (.inl rfl))
    have hqw := hlt' g0 (.inr (.inr (.inl rfl)))
    have hxw := hlt' x0 (.inr (.inr (.inr (.inl rfl))))
    have hpw := hlt' p0 (.inr (.inr (.inr (.inr rfl))))
    have hbw := lt_of_heap hI.box
    obtain ⟨c0, c1, c2, c3, c4⟩ := GhostR.cells hI.g
    have a0 := cell_of_heap hI.box 0
    have a1 := cell_of_heap hI.box 1
    have a2 := cell_of_heap hI.box 2
    have a4 := cell_of_heap hI.box 4
    simp only [List.getElem?_toArray, List.getElem?_cons_zero, List.getElem?_cons_succ] at a0 a1 a2 a4
    by_cases hlt : j ≤ 9
    · have hl9 : (j : Int) ≤ 9 := by omega
      have hj1 : 1 ≤ j := hj.1
      have HK : Hid (∀ n, TurnI w gb t0 g0 x0 p0 s (fun _ => false) (.cells #[.int .i64 1, .int .i64 a, .int .i64 Bb, .int .i64 C, .string (str S), .string (str T)] 39) (j + 1) (wr.drewN n)) := fun n => (hI.stay (.inl rfl)).draw n
      clear hI
      go_wp2
      go_quiet (fail)
      go_wp2
      go_roundw
      case rel => exact ⟨j + 1, by omega, by go_num, HK.out _⟩
      case measure => simp [intOf]; omega
    · have hj10 : j = 10 := by omega
      subst hj10
      have HG : Hid (GhostAt wr gb t0 g0 x0 p0 s ∧ Fr (gOne gb t0 g0 x0 p0) w wr) := ⟨by have := hI.g; rw [turnTo_none] at this; exact this, hI.fr⟩
      rw [turnTo_none] at c4
      have hA1 : 1 ≤ a := HA.out.1
      have hA9 : a ≤ 9 := HA.out.2
      have hA3 : (1 : Int) ≤ (a : Int) := by omega
      have HBOX : Hid (wr.heap[w.heap.size]? = some (.cells #[.int .i64 1, .int .i64 a, .int .i64 Bb, .int .i64 C, .string (str S), .string (str T)] 39)) := hI.box
      clear hI c1 c2 c3 hqw hxw hpw a2 a4
      have ct := HG.out.1.there.cell (i := a) (by omega)
      unfold gT at ct
      obtain ⟨bt, hbt⟩ : ∃ bt, (s.docs (a : Int)).isSome = bt := ⟨_, rfl⟩
      rw [hbt] at ct
      have HBT : Hid ((s.docs (a : Int)).isSome = bt) := hbt
      clear hbt
      go_wp2
      go_quiet (fail)
      go_upto_if 87 with fail
      go_cut [] from 79 to 94 (fun wx => PutCut w gb t0 g0 x0 p0 s a ⟨Bb, S⟩ (.cells #[.int .i64 1, .int .i64 a, .int .i64 Bb, .int .i64 C, .string (str S), .string (str T)] 39) wx)
      case first =>
        have fzb := frozen_of_heap HG.out.1.root
        have hnn := ids_le s
        have hwn : IntKind.i64.wrap ((s.ids.length : Int) + 1) = (s.ids.length : Int) + 1 := wrap_i64 _ (by omega) (by omega)
        cases bt with
        | true =>
          have HM : Hid (∀ n, PutCut w gb t0 g0 x0 p0 s a ⟨Bb, S⟩ (.cells #[.int .i64 1, .int .i64 a, .int .i64 Bb, .int .i64 C, .string (str S), .string (str T)] 39) (wr.drewN n)) := fun n =>
            ⟨GhostR.heap (HG.out.1.congr (fun _ _ => rfl) (fun _ _ => rfl) (fun _ _ => rfl) (fun _ _ => rfl) (by rw [put_idsLen (Hid.int HA), HBT.out]; simp)) rfl, HBOX.out, HG.out.2.drewN n⟩
          go_wp2
          go_meet
          case rel => exact HM.out _
        | false =>
          have HM : Hid (∀ n, PutCut w gb t0 g0 x0 p0 s a ⟨Bb, S⟩ (.cells #[.int .i64 1, .int .i64 a, .int .i64 Bb, .int .i64 C, .string (str S), .string (str T)] 39) ((wr.drewN n).setCell ⟨gb, 4, none⟩ (.int .i64 ((s.ids.length : Int) + 1)))) := fun n => by
            have f : Fr (gOne gb t0 g0 x0 p0) (wr.drewN n) ((wr.drewN n).setCell ⟨gb, 4, none⟩ (.int .i64 ((s.ids.length : Int) + 1))) := (Fr.refl (gOne gb t0 g0 x0 p0) (wr.drewN n)).setCell (p := ⟨gb, 4, none⟩) (.inr (.inl rfl)) _
            refine ⟨((GhostR.heap HG.out.1 rfl : GhostR (wr.drewN n) gb t0 g0 x0 p0 (gT s) (gG s) (gX s) (gP s) (s.ids.length : Int)).setN _).congr (fun _ _ => rfl) (fun _ _ => rfl) (fun _ _ => rfl) (fun _ _ => rfl) (by rw [put_idsLen (Hid.int HA), HBT.out]; simp), f.heap HBOX.out (fun e => HL.out _ e rfl), (HG.out.2.drewN n).trans f⟩
          go_wp2
          go_meet
          case rel => exact HM.out _
      case rest =>
        clear HG HBOX c0 c4 a0 a1 ct hgw htw hbw hlt' hlt hj
        obtain ⟨hG, hbx, hfr⟩ := hcut
        have HP : Hid (GhostAt ((((wc.setCell ⟨t0, a, none⟩ (.bool true)).setCell ⟨g0, a, none⟩ (.int .i64 Bb)).setCell ⟨x0, a, none⟩ (.string (str S))).setCell ⟨p0, a, none⟩ (.int .i64 (s.revs (a : Int) + 1))) gb t0 g0 x0 p0 (s.put (a : Int) ⟨Bb, S⟩) ∧ Fr (gOne gb t0 g0 x0 p0) w ((((wc.setCell ⟨t0, a, none⟩ (.bool true)).setCell ⟨g0, a, none⟩ (.int .i64 Bb)).setCell ⟨x0, a, none⟩ (.string (str S))).setCell ⟨p0, a, none⟩ (.int .i64 (s.revs (a : Int) + 1)))) :=
          ⟨ghost_put (d := ⟨Bb, S⟩) hG HA.out rfl, hfr.trans (fr_put _ _ _ _)⟩
        have hlt2 := GhostR.lt hG
        have hgw := hlt2 gb (.inl rfl)
        have htw := hlt2 t0 (.inr (.inl rfl))
        have hqw := hlt2 g0 (.inr (.inr (.inl rfl)))
        have hxw := hlt2 x0 (.inr (.inr (.inr (.inl rfl))))
        have hbw := lt_of_heap hbx
        obtain ⟨c0, c1, c2, c3, c4⟩ := GhostR.cells hG
        have ct := hG.there.cell (i := a) (by omega)
        have cg := hG.group.cell (i := a) (by omega)
        have cx := hG.text.cell (i := a) (by omega)
        have cp := hG.puts.cell (i := a) (by omega)
        unfold gT at ct
        unfold gG at cg
        unfold gX at cx
        unfold gP at cp
        have a1 := cell_of_heap hbx 1
        have a2 := cell_of_heap hbx 2
        have a4 := cell_of_heap hbx 4
        simp only [List.getElem?_toArray, List.getElem?_cons_zero, List.getElem?_cons_succ] at a1 a2 a4
        have fzt := hG.there.frozen
        have fzg := hG.group.frozen
        have fzx := hG.text.frozen
        have HFZ : Hid (∀ i, wc.frozen? ⟨p0, i, none⟩ = false) := hG.puts.frozen
        have HC3 : Hid (wc.cell? ⟨gb, 3, none⟩ = some (.slice (some ⟨p0, 0, none⟩) 10 10) ∧ wc.cell? ⟨p0, a, none⟩ = some (.int .i64 (s.revs (a : Int)))) := ⟨c3, cp⟩
        obtain ⟨n1, n2, n3, n4, n5, n6, n7, n8, n9, n10⟩ := hG.ne
        have HNE : Hid (t0 ≠ p0 ∧ g0 ≠ p0 ∧ x0 ≠ p0 ∧ gb ≠ p0) := ⟨n7, n9, n10, n4⟩
        have z1 := HL.out gb (.inl rfl)
        have z2 := HL.out t0 (.inr (.inl rfl))
        have z3 := HL.out g0 (.inr (.inr (.inl rfl)))
        have z4 := HL.out x0 (.inr (.inr (.inr (.inl rfl))))
        have HZ5 : Hid (p0 ≠ w.heap.size ∧ p0 < wc.heap.size) := ⟨HL.out p0 (.inr (.inr (.inr (.inr rfl)))), hlt2 p0 (.inr (.inr (.inr (.inr rfl))))⟩
        clear hG hbx hfr c3 c4 cp hlt2 n4 n7 n9 n10
        have n1' := Ne.symm n1
        have n2' := Ne.symm n2
        have n3' := Ne.symm n3
        have n5' := Ne.symm n5
        have n6' := Ne.symm n6
        have n8' := Ne.symm n8
        have hA0 : (0 : Int) ≤ (a : Int) := by omega
        have hA10 : (a : Int) < 10 := by omega
        go_wp2
        go_region_held3 (fun w' => w'.cell? ⟨gb, 0, none⟩ = some (.slice (some ⟨t0, 0, none⟩) 10 10) ∧ w'.cell? ⟨gb, 1, none⟩ = some (.slice (some ⟨g0, 0, none⟩) 10 10) ∧ w'.cell? ⟨gb, 2, none⟩ = some (.slice (some ⟨x0, 0, none⟩) 10 10) ∧ w'.cell? ⟨w.heap.size, 1, none⟩ = some (.int .i64 (a : Int)) ∧ w'.cell? ⟨w.heap.size, 2, none⟩ = some (.int .i64 Bb) ∧ w'.cell? ⟨w.heap.size, 4, none⟩ = some (.string (str S))) (go_keep) (fail)
        clear fzt fzg fzx
        have hwr : IntKind.i64.wrap (s.revs (a : Int) + 1) = s.revs (a : Int) + 1 := wrap_i64 _ (by have := HR.out.1; omega) (by have := HR.out.2; have := HB.out; omega)
        have fzp := HFZ.out
        obtain ⟨c3, cp⟩ := HC3.out
        obtain ⟨n7, n9, n10, n4⟩ := HNE.out
        obtain ⟨z5, hpw⟩ := HZ5.out
        have n4' := Ne.symm n4
        have n7' := Ne.symm n7
        have n9' := Ne.symm n9
        have n10' := Ne.symm n10
        go_wp2
        go_region
        go_wp2
        go_end0
        exact ⟨rfl, GhostR.heap HP.out.1 rfl, HP.out.2.drew.drew⟩
end
end Go.Proofs.Qxb6500357a
