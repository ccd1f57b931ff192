import Derived.Test.Qxb6500357aGreatSplit
import Derived.Test.Qxb6500357aGreatState
namespace Go.Proofs.Qxb6500357aGreat
open Go.RowKit Go.Tag
set_option linter.unusedVariables false
set_option linter.unusedSimpArgs false
set_option maxRecDepth 100000
attribute [local simp] str_size
attribute [local go_sem] str_size

theorem mk96 (w : World) : (Instr.makeMap 82 (some (.int .i64 6))).run Tryz.prog w = .ok (.map (some w.heap.size)) (w.alloc (.map #[] 0)) := by kernel_rfl
theorem zeroPD (w : World) : (zeroValue 81).run Tryz.prog w = .ok (.pointer none) w := by kernel_rfl

/-- Blocks of the call's own. -/
def Since (w w' : World) (k : Nat) : Prop := w.heap.size ≤ k ∧ k < w'.heap.size

set_option maxHeartbeats 400000 in
theorem storeNew_any (w : World) : Calls Tryz.prog 17 #[] w fun e w' => ∃ b bd br bg p, e = .returned (.pointer (some ⟨b, 0, none⟩)) ∧ StoreAt w' (Since w w') b St.new bd br bg p ∧ Fr No w w' := by
  have hmm := @run_makeMap Tryz.prog
  have hmk := mk96
  go_enter Tryz.func17, Tryz.ntmps17
  go_wp2
  go_ret
  refine ⟨w.heap.size + 1 + 1 + 1, w.heap.size, w.heap.size + 1, w.heap.size + 1 + 1, fun _ => 0, rfl, ?_, ?_⟩
  · have e1 : (fNum St.new.revs) = fun _ => none := by funext i; simp [fNum, St.new]
    have e2 : (fGroups St.new) = fun _ => none := by
      funext g
      have : St.new.ids = [] := by decide
      simp [fGroups, fNum, St.cnt, this]
    refine ⟨?_, ?_, by simp [St.new], by simp [St.new], ?_, ?_, ⟨by omega, by omega, by omega⟩, ?_⟩
    · have := heap_alloc_new (((w.alloc (.map #[] 0)).alloc (.map #[] 0)).alloc (.map #[] 0)) (.cells #[.map (some w.heap.size), .map (some (w.heap.size + 1)), .map (some (w.heap.size + 1 + 1))] 85)
      simp only [World.size_alloc] at this
      exact this
    · refine (mapFn_new w).keep ?_
      rw [Below.heap_alloc _ _ _ (by simp; omega), Below.heap_alloc _ _ _ (by simp; omega), Below.heap_alloc _ _ _ (by simp)]
    · rw [e1]
      have := mapFn_new (ke := kInt) (w.alloc (.map #[] 0))
      simp only [World.size_alloc] at this
      refine this.keep ?_
      rw [Below.heap_alloc _ _ _ (by simp), Below.heap_alloc _ _ _ (by simp)]
    · rw [e2]
      have := mapFn_new (ke := kInt) ((w.alloc (.map #[] 0)).alloc (.map #[] 0))
      simp only [World.size_alloc] at this
      refine this.keep ?_
      rw [Below.heap_alloc _ _ _ (by simp)]
    · refine ⟨?_, ?_, ?_, ?_, by simp [St.new]⟩ <;> simp [Since] <;> omega
  · exact ((((Fr.refl _ _).alloc _).alloc _).alloc _).alloc _

/-- A counter one lower; at nought it goes. -/
def decV (n : Int) : Option Value := if n = 1 then none else some (.int .i64 (n - 1))

set_option maxHeartbeats 400000 in
theorem leave_any (b bd br bg : Nat) (f : Int → Option Value) (g n : Int) (w : World) (hr : w.heap[b]? = some (.cells #[.map (some bd), .map (some br), .map (some bg)] 85)) (hg : MapFn w bg kInt f)
    (hf : f g = some (.int .i64 n)) (h1 : 1 ≤ n) (h2 : n ≤ 100) :
    Calls Tryz.prog 101 #[.pointer (some ⟨b, 0, none⟩), .int .i64 g] w fun e w' => e = .returned (.tuple #[]) ∧ MapFn w' bg kInt (upd f g (decV n)) ∧ Turned bg w w' := by
  have hne := map_ne_cells hg hr
  have hc : w.cell? ⟨b, 2, none⟩ = some (.map (some bg)) := by rw [cell_of_heap hr]; rfl
  have hlk : (Instr.lookup 83 (.map (some bg)) (.int .i64 g) false).run Tryz.prog w = .ok (.int .i64 n) w := by
    have := hg.lookup_v (P := Tryz.prog) (t := 83) keyInt Tryz.underlying83 (zero3 _) g
    rw [hf] at this; exact this
  obtain ⟨w1, hup, hm1, ht1⟩ := hg.update' (P := Tryz.prog) (t := 83) keyInt Tryz.underlying83 g (.int .i64 (n - 1))
  have hc1 := ht1.cell (Ne.symm hne) hc
  have hlk1 : (Instr.lookup 83 (.map (some bg)) (.int .i64 g) false).run Tryz.prog w1 = .ok (.int .i64 (n - 1)) w1 := by
    have := hm1.lookup_v (P := Tryz.prog) (t := 83) keyInt Tryz.underlying83 (zero3 _) g
    rw [upd_same] at this; exact this
  simp only [kInt] at hup
  by_cases hn1 : n = 1
  · obtain ⟨w2, hdl, hm2, ht2⟩ := hm1.delete' (P := Tryz.prog) (t := 83) keyInt Tryz.underlying83 g
    simp only [kInt] at hdl
    have hz : ((n - 1 : Int) == 0) = true := by simp; omega
    have HM : Hid (MapFn w2 bg kInt (upd f g (decV n))) := by
      unfold decV
      rw [if_pos hn1]
      refine hm2.congr fun k => ?_
      unfold upd; by_cases hk : k = g <;> simp [hk]
    clear hn1 hf
    go_enter Tryz.func101, Tryz.ntmps101
    go_wp2
    go_end0
    exact ⟨rfl, HM.out, ht1.trans ht2⟩
  · have hz : ((n - 1 : Int) == 0) = false := by simp; omega
    have HM : Hid (MapFn w1 bg kInt (upd f g (decV n))) := by
      unfold decV
      rw [if_neg hn1]; exact hm1
    clear hn1 hf
    go_enter Tryz.func101, Tryz.ntmps101
    go_wp2
    go_end0
    exact ⟨rfl, HM.out, ht1⟩
/-- What Get leaves. -/
def GetPost (w : World) (s : St) (id : Int) (e : Ending) (w' : World) : Prop := e = .returned (.tuple #[s.getDoc id, .int .i64 (s.getErr id)]) ∧ Fr No w w'

set_option maxHeartbeats 400000 in
theorem get_any (b bd br bg : Nat) (p : Int → Nat) (F : Nat → Prop) (s : St) (B : Int) (id : Int) (w : World) (h : StoreAt w F b s bd br bg p) (hg : Fine s B) :
    Calls Tryz.prog 66 #[.pointer (some ⟨b, 0, none⟩), .int .i64 id] w (GetPost w s id) := by
  have hc : w.cell? ⟨b, 0, none⟩ = some (.map (some bd)) := by rw [cell_of_heap h.root]; rfl
  have hbw := h.lt.1
  have hdw := h.lt.2.1
  by_cases hid : 1 ≤ id ∧ id ≤ 9
  · have hdd : decide (1 ≤ id ∧ id ≤ 9) = true := by simp; exact hid
    have hlk : ∀ o, (Instr.lookup 82 (.map (some bd)) (.int .i64 id) true).run Tryz.prog (w.alloc o) = .ok (.tuple #[(fDocs s p id).getD (.pointer none), .bool (fDocs s p id).isSome]) (w.alloc o) := fun o =>
      (h.docs.keep (Below.heap_alloc _ o _ hdw)).lookup_ok (P := Tryz.prog) (t := 82) keyInt Tryz.underlying82 (zeroPD _) id
    cases hd : s.docs id with
    | none =>
      have HE : Hid (s.getErr id = 6 ∧ s.getDoc id = zeroDoc) := ⟨getErr_none hid hd, getDoc_none hd⟩
      simp only [fDocs, hd, Option.map_none, Option.getD_none, Option.isSome_none] at hlk
      clear hd hid
      go_enter Tryz.func66, Tryz.ntmps66
      go_wp2_with (go_at_call 65; refine (goodId_any _ _).mono ?_; rintro e w' ⟨rfl, rfl⟩)
      refine bodyPost_ret (v := .tuple #[zeroDoc, .int .i64 6]) (by simp [results, Tryz.results66, go_sem, zeroDoc]; rfl) rfl ⟨by rw [HE.out.1, HE.out.2], (Fr.refl _ _).alloc _⟩
    | some d =>
      have hpd := h.doc id d hd
      have hpw := lt_of_heap hpd
      have HE : Hid (s.getErr id = 0 ∧ s.getDoc id = docV id d) := ⟨getErr_some hid hd, getDoc_some hd⟩
      simp only [fDocs, hd, Option.map_some, Option.getD_some, Option.isSome_some] at hlk
      have k0 : w.cell? ⟨p id, 0, none⟩ = some (.int .i64 id) := by rw [cell_of_heap hpd]; rfl
      have k1 : w.cell? ⟨p id, 1, none⟩ = some (.int .i64 d.group) := by rw [cell_of_heap hpd]; rfl
      have k2 : w.cell? ⟨p id, 2, none⟩ = some (.string (str d.text)) := by rw [cell_of_heap hpd]; rfl
      clear hd hid hpd
      generalize p id = q at *
      go_enter Tryz.func66, Tryz.ntmps66
      go_wp2_with (go_at_call 65; refine (goodId_any _ _).mono ?_; rintro e w' ⟨rfl, rfl⟩)
      refine bodyPost_ret (v := .tuple #[docV id d, .int .i64 0]) (by simp [results, Tryz.results66, go_sem, docV]) rfl ⟨by rw [HE.out.1, HE.out.2], (Fr.refl _ _).alloc _⟩
  · have hdd : decide (1 ≤ id ∧ id ≤ 9) = false := by simp only [decide_eq_false_iff_not]; exact hid
    have hd : s.docs id = none := by
      cases hd : s.docs id with
      | none => rfl
      | some d => exact absurd (hg.dom id d hd).1 hid
    have HE : Hid (s.getErr id = 2 ∧ s.getDoc id = zeroDoc) := ⟨getErr_bad hid, getDoc_none hd⟩
    clear hd hid
    go_enter Tryz.func66, Tryz.ntmps66
    go_wp2_with (go_at_call 65; refine (goodId_any _ _).mono ?_; rintro e w' ⟨rfl, rfl⟩)
    refine bodyPost_ret (v := .tuple #[zeroDoc, .int .i64 2]) (by simp [results, Tryz.results66, go_sem, zeroDoc]; rfl) rfl ⟨by rw [HE.out.1, HE.out.2], (Fr.refl _ _).alloc _⟩

set_option maxHeartbeats 400000 in
theorem storeLen_any (b bd br bg : Nat) (p : Int → Nat) (F : Nat → Prop) (s : St) (B : Int) (w : World) (h : StoreAt w F b s bd br bg p) (hg : Fine s B) :
    Calls Tryz.prog 87 #[.pointer (some ⟨b, 0, none⟩)] w fun e w' => e = .returned (.int .i64 (s.ids.length : Int)) ∧ w' = w := by
  have hc : w.cell? ⟨b, 0, none⟩ = some (.map (some bd)) := by rw [cell_of_heap h.root]; rfl
  have hln := fun ty => h.docs.len (P := Tryz.prog) (t := 82) keyInt Tryz.underlying82 (nodup_ids s) (fun k => by rw [mem_ids hg]; simp [fDocs]) ty
  go_enter Tryz.func87, Tryz.ntmps87
  go_wp2
  go_ret
  exact ⟨rfl, rfl⟩

/-- What Reset leaves. -/
def ResetPost (w : World) (F : Nat → Prop) (b : Nat) (s : St) (bd br bg : Nat) (p : Int → Nat) (e : Ending) (w' : World) : Prop :=
  e = .returned (.int .i64 (s.ids.length : Int)) ∧ StoreAt w' F b s.reset bd br bg p ∧ Fr F w w' ∧ w'.heap.size = w.heap.size

theorem reset_cnt (s : St) (g : Int) : s.reset.cnt g = 0 := by
  have : s.reset.ids = [] := by unfold St.ids St.reset; simp
  unfold St.cnt; rw [this]; rfl

set_option maxHeartbeats 400000 in
theorem storeReset_any (b bd br bg : Nat) (p : Int → Nat) (F : Nat → Prop) (s : St) (B : Int) (w : World) (h : StoreAt w F b s bd br bg p) (hg : Fine s B) :
    Calls Tryz.prog 88 #[.pointer (some ⟨b, 0, none⟩)] w (ResetPost w F b s bd br bg p) := by
  have hc : w.cell? ⟨b, 0, none⟩ = some (.map (some bd)) := by rw [cell_of_heap h.root]; rfl
  have hc2 : w.cell? ⟨b, 2, none⟩ = some (.map (some bg)) := by rw [cell_of_heap h.root]; rfl
  have hln := fun ty => h.docs.len (P := Tryz.prog) (t := 82) keyInt Tryz.underlying82 (nodup_ids s) (fun k => by rw [mem_ids hg]; simp [fDocs]) ty
  obtain ⟨w1, hcl1, hm1, ht1⟩ := h.docs.clear' (P := Tryz.prog) (t := 82) Tryz.underlying82
  have hg1 := h.groups.keep (ht1.other (Ne.symm h.ne.2.1))
  obtain ⟨w2, hcl2, hm2, ht2⟩ := hg1.clear' (P := Tryz.prog) (t := 83) Tryz.underlying83
  have hb1 : b ≠ bd := (map_ne_cells h.docs h.root).symm
  have hc21 := ht1.cell hb1 hc2
  have hb2 : b ≠ bg := (map_ne_cells h.groups h.root).symm
  have HS : Hid (StoreAt w2 F b s.reset bd br bg p ∧ Fr F w w2 ∧ w2.heap.size = w.heap.size) := by
    refine ⟨⟨?_, ?_, ?_, ?_, ?_, ?_, h.ne, ⟨h.own.1, h.own.2.1, h.own.2.2.1, h.own.2.2.2.1, ?_⟩⟩, ?_, by rw [ht2.size, ht1.size]⟩
    · rw [ht2.other hb2, ht1.other hb1]; exact h.root
    · refine (hm1.keep (ht2.other h.ne.2.1)).congr fun k => by simp [fDocs, St.reset]
    · intro i d hd; simp [St.reset] at hd
    · intro i j d d' hd; simp [St.reset] at hd
    · exact h.revs.keep ((ht2.other h.ne.2.2).trans (ht1.other (Ne.symm h.ne.1)))
    · refine hm2.congr fun k => by simp [fGroups, fNum, reset_cnt]
    · intro i d hd; simp [St.reset] at hd
    · exact (ht1.fr.mono (fun k _ e => by rw [e]; exact h.own.2.1)).trans (ht2.fr.mono (fun k _ e => by rw [e]; exact h.own.2.2.2.1))
  clear hm1 hm2 ht1 ht2 hg1
  go_enter Tryz.func88, Tryz.ntmps88
  go_wp2
  go_ret
  exact ⟨rfl, HS.out⟩
end Go.Proofs.Qxb6500357aGreat
