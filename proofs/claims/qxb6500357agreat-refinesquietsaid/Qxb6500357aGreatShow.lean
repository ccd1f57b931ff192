import Derived.Test.Qxb6500357aGreatIds
import Derived.Test.Qxb6500357aGreatStore4
import Derived.Test.Qxb6500357aGreatShowPlain
namespace Go.Proofs.Qxb6500357aGreat
open Go.RowKit Go.Tag
set_option linter.unusedVariables false
set_option linter.unusedSimpArgs false
set_option maxRecDepth 100000
attribute [local simp] str_size
attribute [local go_sem] str_size

/-- A pure call that answers the string l. -/
def StrPost (w : World) (l : List UInt8) (e : Ending) (w' : World) : Prop := e = .returned (.string (str l)) ∧ Fr No w w'

theorem StoreAt_frNo {w w' : World} {F : Nat → Prop} {b : Nat} {s : St} {bd br bg : Nat} {p : Int → Nat} (h : StoreAt w F b s bd br bg p) (hf : Fr No w w') : StoreAt w' F b s bd br bg p :=
  ⟨hf.heap h.root (fun h => h), h.docs.fr hf (fun h => h), fun i d hd => hf.heap (h.doc i d hd) (fun h => h), h.inj, h.revs.fr hf (fun h => h), h.groups.fr hf (fun h => h), h.ne, h.own⟩

def zeros (n : Nat) : Array Value := Array.replicate n (.int .i64 0)
theorem mk9 (w : World) : (Instr.makeSlice 55 (.int .i64 9) (.int .i64 9)).run Tryz.prog w = .ok (.slice (some ⟨w.heap.size, 0, none⟩) 9 9) (w.alloc (.cells (zeros 9) 3)) := by kernel_rfl
theorem mk3 (w : World) : (Instr.makeSlice 55 (.int .i64 3) (.int .i64 3)).run Tryz.prog w = .ok (.slice (some ⟨w.heap.size, 0, none⟩) 3 3) (w.alloc (.cells (zeros 3) 3)) := by kernel_rfl
/-- Loop 1. -/
def ShowI (w : World) (s : St) (j : Nat) (t : Value) (wr : World) : Prop := t = .string (str (docsStr s (s.ids.take j))) ∧ Fr No w wr
/-- Loops 2, 3: the first j places of T are laid. -/
def FillI (w : World) (T : List Int) (g n j : Nat) (wr : World) : Prop :=
  ∃ L : List Int, L.length = T.length ∧ L.take j = T.take j ∧ wr.ownsRow w.heap.size 3 1 (.slice (some ⟨g, 0, none⟩) n n) n (L.map (Value.int .i64)) ∧ Fr No w wr

theorem fill_start (w wr : World) (T : List Int) (n : Nat) (hT : T.length = n) (hn : n ≤ 1000) (hf : Fr No w wr) : FillI w T wr.heap.size n 0 (wr.alloc (.cells (zeros n) 3)) :=
  ⟨List.replicate n 0, by simp [hT], by simp, own_new _ _ _ _ _ (by simp [zeros]) hf.size (by unfold maxLen; omega) _ (by simp [zeros]), hf.alloc _⟩
theorem fill_step {w wr : World} {T : List Int} {g n j : Nat} {x : Int} (h : FillI w T g n j wr) (hT : T.length = n) (hx : T[j]? = some x) : FillI w T g n (j + 1) (wr.setCell ⟨g, j, none⟩ (.int .i64 x)) := by
  obtain ⟨L, h1, h2, h3, h4⟩ := h
  have hj : j < T.length := (List.getElem?_eq_some_iff.1 hx).1
  obtain ⟨hg, -, -, -, hset⟩ := own_cells h3
  refine ⟨L.set j x, by simpa using h1, head_set h1 h2 hx, ?_, h4.setCell (p := ⟨g, j, none⟩) (.inl hg) _⟩
  rw [List.map_set]; exact hset j _ (by omega)
theorem fill_cell {w wr : World} {T : List Int} {g n j : Nat} (h : FillI w T g n j wr) (hT : T.length = n) (i : Nat) (hi : i < n) : ∃ u, wr.cell? ⟨g, i, none⟩ = some (.int .i64 u) ∧ wr.frozen? ⟨g, i, none⟩ = false := by
  obtain ⟨L, h1, h2, h3, h4⟩ := h
  obtain ⟨hg, -, hc, hf, hset⟩ := own_cells h3
  exact ⟨L[i]'(by omega), hc i _ (by simp [h1, hT, hi]), hf i⟩
theorem fill_done {w wr : World} {T : List Int} {g n : Nat} (h : FillI w T g n n wr) (hT : T.length = n) : wr.ownsRow w.heap.size 3 1 (.slice (some ⟨g, 0, none⟩) n n) n (T.map (Value.int .i64)) ∧ Fr No w wr := by
  obtain ⟨L, h1, h2, h3, h4⟩ := h
  rw [List.take_of_length_le (by omega), List.take_of_length_le (by omega)] at h2
  rw [← h2]; exact ⟨h3, h4⟩

set_option maxHeartbeats 1000000 in
theorem storeShow_any (b bd br bg : Nat) (p : Int → Nat) (F : Nat → Prop) (s : St) (B : Int) (w : World) (h : StoreAt w F b s bd br bg p) (hg : Fine s B) (hB : B < 1000000000000000000) :
    Calls Tryz.prog 16 #[.pointer (some ⟨b, 0, none⟩)] w (StrPost w s.show) := by
  have HH : Hid (StoreAt w F b s bd br bg p ∧ Fine s B ∧ B < 1000000000000000000) := ⟨h, hg, hB⟩
  have hN : s.ids.length ≤ 6 := hg.size
  obtain ⟨n, hn⟩ : ∃ n, s.ids.length = n := ⟨_, rfl⟩
  have HN : Hid (s.ids.length = n) := hn
  rw [hn] at hN
  clear hn h hg hB
  have hN' : (n : Int) ≤ 6 := by omega
  go_enter Tryz.func16, Tryz.ntmps16
  go_wp2_with (go_at_call 47; refine (ids_any b bd br bg p F s B w HH.out.1 HH.out.2.1).mono ?_
               rintro e w1 ⟨v, rfl, hown, hfr, -⟩
               obtain ⟨ao, cap, rfl, hcl⟩ := own_sl hown
               simp only [List.length_map, HN.out])
  go_loopw [3, 20] (fun t i wr => ∃ j : Nat, j ≤ n ∧ i = .int .i64 j ∧ ShowI w s j t wr ∧ Fr No w1 wr) (fun _ i _ => n - (intOf i).toNat)
  case atStart => exact ⟨0, Nat.zero_le _, rfl, ⟨rfl, hfr⟩, Fr.refl _ _⟩
  case round =>
    obtain ⟨j, hj, rfl, ⟨rfl, hF⟩, hF1⟩ := hrel
    by_cases hlt : j < n
    · have hjl : j < s.ids.length := by rw [HN.out]; exact hlt
      obtain ⟨gg, off, rfl, hc0⟩ := hcl j (.int .i64 s.ids[j]) (by simp [hjl])
      have hc0 := frNo_cell hF1 hc0
      have hmem : s.ids[j] ∈ s.ids := List.getElem_mem hjl
      have hSt : s.ids.take (j + 1) = s.ids.take j ++ [s.ids[j]] := take_snoc _ _ hjl
      generalize s.ids[j] = id at *
      obtain ⟨d, hd⟩ := Option.isSome_iff_exists.1 ((mem_ids HH.out.2.1 id).1 hmem)
      have hdm := HH.out.2.1.dom id d hd
      have HS := StoreAt_frNo HH.out.1 hF
      have HK : Hid (docsStr s (s.ids.take (j + 1)) = docsStr s (s.ids.take j) ++ itoa id.toNat ++ [47] ++ itoa d.group.toNat ++ [47] ++ d.text ++ [59]) := by
        show _ = _
        rw [hSt, docsStr_snoc, docStr, groupOf_some hd, textOf_some hd]; simp
      have hlen : (docsStr s (s.ids.take j)).length ≤ 360 := by
        have h1 := docsStr_len HH.out.2.1 (s.ids.take j)
        have h2 : (s.ids.take j).length ≤ s.ids.length := by simp; omega
        have h3 := HH.out.2.1.size; omega
      have hlk : (Instr.lookup 82 (.map (some bd)) (.int .i64 id) false).run Tryz.prog wr = .ok (.pointer (some ⟨p id, 0, none⟩)) wr := by
        have := HS.docs.lookup_v (P := Tryz.prog) (t := 82) keyInt Tryz.underlying82 (zeroPD _) id
        simp only [fDocs, hd, Option.map_some, Option.getD_some] at this
        exact this
      have c0 : wr.cell? ⟨b, 0, none⟩ = some (.map (some bd)) := by rw [cell_of_heap HS.root]; rfl
      have k0 : wr.cell? ⟨p id, 0, none⟩ = some (.int .i64 id) := by rw [cell_of_heap (HS.doc id _ hd)]; rfl
      have k1 : wr.cell? ⟨p id, 1, none⟩ = some (.int .i64 d.group) := by rw [cell_of_heap (HS.doc id _ hd)]; rfl
      have k2 : wr.cell? ⟨p id, 2, none⟩ = some (.string (str d.text)) := by rw [cell_of_heap (HS.doc id _ hd)]; rfl
      obtain ⟨⟨i1, i2⟩, ⟨g1, g2⟩, t1, -⟩ := hdm
      have b1 := itoa_len id.toNat
      have b2 := itoa_len d.group.toNat
      generalize p id = q at *
      obtain ⟨dg, dt⟩ := d
      simp only [] at k1 k2 g1 g2 t1 b2 HK
      clear hcl hd hmem hSt HS hown hjl
      go_wp2_with (go_at_call 48; refine (itoa_any _ (by omega) (by omega) _).mono ?_
                   rintro e w' ⟨rfl, hfr'⟩
                   have k1 := frNo_cell hfr' k1
                   have k2 := frNo_cell hfr' k2
                   have hF := hF.trans hfr'
                   have hF1 := hF1.trans hfr'
                   clear hfr')
      go_roundw
      case rel => exact ⟨j + 1, by omega, by go_num, ⟨by rw [HK.out]; simp only [← str_append]; rfl, hF⟩, hF1⟩
      case measure => simp [intOf]; omega
    · have HT : Hid (docsStr s (s.ids.take j) = docsStr s s.ids) := by
        show _ = _
        rw [List.take_of_length_le (by rw [HN.out]; omega)]
      have hlen : (docsStr s (s.ids.take j)).length ≤ 360 := by
        have h1 := docsStr_len HH.out.2.1 (s.ids.take j)
        have h2 : (s.ids.take j).length ≤ s.ids.length := by simp; omega
        have h3 := HH.out.2.1.size; omega
      generalize docsStr s (s.ids.take j) = T0 at *
      have HF : Hid (Fr No w wr) := hF
      have hmk := mk9
      have hmk3 := mk3
      clear hcl hown hF hF1 hfr
      go_wp2
      have HS0 : Hid (FillI w s.revL wr.heap.size 9 0 (wr.alloc (.cells (zeros 9) 3))) := fill_start w wr s.revL 9 (by simp [St.revL, idsAll]) (by omega) HF.out
      generalize wr.heap.size = g1 at *
      go_loopw [55] (fun i wr' => ∃ j : Nat, j ≤ 9 ∧ i = .int .i64 j ∧ FillI w s.revL g1 9 j wr') (fun i _ => 9 - (intOf i).toNat)
      case atStart => exact ⟨0, by omega, rfl, HS0.out⟩
      case round =>
        obtain ⟨j, hj, rfl, hI⟩ := hrel
        have hRl : s.revL.length = 9 := by simp [St.revL, idsAll]
        have hFI : Fr No w wr := by obtain ⟨L, _, _, _, h4⟩ := hI; exact h4
        have HS := StoreAt_frNo HH.out.1 hFI
        by_cases hlt : j < 9
        · obtain ⟨u, hcu, hfu⟩ := fill_cell hI hRl j hlt
          have HK : Hid (FillI w s.revL g1 9 (j + 1) (wr.setCell ⟨g1, j, none⟩ (.int .i64 (s.revs ((j : Int) + 1))))) := fill_step hI hRl (revL_get s j hlt)
          have hlk : (Instr.lookup 83 (.map (some br)) (.int .i64 ((j : Int) + 1)) false).run Tryz.prog wr = .ok (.int .i64 (s.revs ((j : Int) + 1))) wr := by
            have := HS.revs.lookup_v (P := Tryz.prog) (t := 83) keyInt Tryz.underlying83 (zero3 _) ((j : Int) + 1)
            rw [fNum_getD] at this; exact this
          have c1 : wr.cell? ⟨b, 1, none⟩ = some (.map (some br)) := by rw [cell_of_heap HS.root]; rfl
          have hlt' : (j : Int) < 9 := by omega
          clear HS hI hFI
          go_wp2
          go_roundw
          case rel => exact ⟨j + 1, by omega, by go_num, HK.out⟩
          case measure => simp [intOf]; omega
        · obtain rfl : j = 9 := by omega
          have HD : Hid (wr.ownsRow w.heap.size 3 1 (.slice (some ⟨g1, 0, none⟩) 9 9) 9 (s.revL.map (Value.int .i64)) ∧ Fr No w wr) := fill_done hI hRl
          have HS1 : Hid (FillI w s.grpL wr.heap.size 3 0 (wr.alloc (.cells (zeros 3) 3))) := fill_start w wr s.grpL 3 (by simp [St.grpL]) (by omega) HD.out.2
          have HX : Hid (Fr No wr (wr.alloc (.cells (zeros 3) 3))) := (Fr.refl _ _).alloc _
          have hg12 : g1 < wr.heap.size := (own_cells HD.out.1).2.1
          clear hI hFI HS
          go_wp2
          generalize wr.heap.size = g2 at *
          go_loopw [70] (fun i wr' => ∃ j : Nat, j ≤ 3 ∧ i = .int .i64 j ∧ FillI w s.grpL g2 3 j wr' ∧ wr'.ownsRow w.heap.size 3 1 (.slice (some ⟨g1, 0, none⟩) 9 9) 9 (s.revL.map (Value.int .i64))) (fun i _ => 3 - (intOf i).toNat)
          case atStart => exact ⟨0, by omega, rfl, HS1.out, own_fr HD.out.1 HX.out (fun _ _ h => h)⟩
          case round =>
            obtain ⟨j, hj, rfl, hI, hO⟩ := hrel
            have hGl : s.grpL.length = 3 := by simp [St.grpL]
            have hFI : Fr No w wr := by obtain ⟨L, _, _, _, h4⟩ := hI; exact h4
            have HS := StoreAt_frNo HH.out.1 hFI
            by_cases hlt : j < 3
            · obtain ⟨u, hcu, hfu⟩ := fill_cell hI hGl j hlt
              have HK : Hid (FillI w s.grpL g2 3 (j + 1) (wr.setCell ⟨g2, j, none⟩ (.int .i64 (s.cnt (j : Int)))) ∧ (wr.setCell ⟨g2, j, none⟩ (.int .i64 (s.cnt (j : Int)))).ownsRow w.heap.size 3 1 (.slice (some ⟨g1, 0, none⟩) 9 9) 9 (s.revL.map (Value.int .i64))) :=
                ⟨fill_step hI hGl (grpL_get s j hlt), own_fr (S := fun k => k = g2) hO ((Fr.refl (fun k => k = g2) _).setCell (p := ⟨g2, j, none⟩) (.inr rfl) _) (fun k hk e => by simp only [Value.ownBlock, Option.some.injEq] at hk; omega)⟩
              have hlk : (Instr.lookup 83 (.map (some bg)) (.int .i64 (j : Int)) false).run Tryz.prog wr = .ok (.int .i64 (s.cnt (j : Int))) wr := by
                have := HS.groups.lookup_v (P := Tryz.prog) (t := 83) keyInt Tryz.underlying83 (zero3 _) (j : Int)
                unfold fGroups at this
                rw [fNum_getD] at this; exact this
              have c1 : wr.cell? ⟨b, 2, none⟩ = some (.map (some bg)) := by rw [cell_of_heap HS.root]; rfl
              have hlt' : (j : Int) < 3 := by omega
              clear HS hI hFI hO
              go_wp2
              go_roundw
              case rel => exact ⟨j + 1, by omega, by go_num, HK.out.1, HK.out.2⟩
              case measure => simp [intOf]; omega
            · obtain rfl : j = 3 := by omega
              have hD2 := fill_done hI hGl
              have HQ : Hid (Sl wr (.slice (some ⟨g1, 0, none⟩) 9 9) (s.revL.map (Value.int .i64)) ∧ Sl wr (.slice (some ⟨g2, 0, none⟩) 3 3) (s.grpL.map (Value.int .i64)) ∧ Fr No w wr) := ⟨own_sl hO, own_sl hD2.1, hFI⟩
              have HM : Hid ((∀ n ∈ s.revL, 0 ≤ n ∧ n < 1000000000000000000) ∧ (∀ n ∈ s.grpL, 0 ≤ n ∧ n < 1000000000000000000)) :=
                ⟨fun n hn => by have := revL_mem HH.out.2.1 n hn; have := HH.out.2.2; omega, fun n hn => by have := grpL_mem s n hn; omega⟩
              have HE : Hid (s.show = T0 ++ [124] ++ ints s.revL ++ [124] ++ ints s.grpL) := by
                show _ = _
                rw [HT.out]; rfl
              have l1 := ints_len s.revL
              have l2 := ints_len s.grpL
              rw [hGl] at l2
              rw [show s.revL.length = 9 from by simp [St.revL, idsAll]] at l1
              have HGl : Hid (s.revL.length ≤ 1000 ∧ s.grpL.length ≤ 1000) := ⟨by simp [St.revL, idsAll], by simp [St.grpL]⟩
              have HC1 : Hid (Calls Tryz.prog 46 #[.slice (some ⟨g1, 0, none⟩) 9 9] wr _) := ints_any _ s.revL _ HQ.out.1 HM.out.1 HGl.out.1
              clear hI hO hFI HS hD2 hGl
              go_wp2_with (go_at_call 46
                           first
                             | (refine (HC2.out).mono ?_
                                rintro e w3 ⟨rfl, hfr3⟩)
                             | (refine (HC1.out).mono ?_
                                rintro e w2 ⟨rfl, hfr2⟩
                                have HC2 : Hid (Calls Tryz.prog 46 #[.slice (some ⟨g2, 0, none⟩) 3 3] w2 _) := ints_any _ s.grpL _ (HQ.out.2.1.fr hfr2) HM.out.2 HGl.out.2))
              go_ret
              exact ⟨by rw [HE.out]; simp only [← str_append]; rfl, (HQ.out.2.2.trans hfr2).trans hfr3⟩
end Go.Proofs.Qxb6500357aGreat
