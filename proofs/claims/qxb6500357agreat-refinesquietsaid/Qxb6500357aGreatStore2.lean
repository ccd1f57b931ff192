import Derived.Test.Qxb6500357aGreatStore
import Derived.Test.Qxb6500357aGreatState2
namespace Go.Proofs.Qxb6500357aGreat
open Go.RowKit Go.Tag
set_option linter.unusedVariables false
set_option linter.unusedSimpArgs false
set_option maxRecDepth 100000
attribute [local simp] str_size
attribute [local go_sem] str_size

theorem _root_.Go.Tag.StoreAt.ne_doc {w : World} {F : Nat → Prop} {b : Nat} {s : St} {bd br bg : Nat} {p : Int → Nat} (h : StoreAt w F b s bd br bg p) {i : Int} {d : Doc} (hd : s.docs i = some d) : bd ≠ p i ∧ br ≠ p i ∧ bg ≠ p i :=
  ⟨map_ne_cells h.docs (h.doc i d hd), map_ne_cells h.revs (h.doc i d hd), map_ne_cells h.groups (h.doc i d hd)⟩
theorem _root_.Go.Tag.StoreAt.ne_root {w : World} {F : Nat → Prop} {b : Nat} {s : St} {bd br bg : Nat} {p : Int → Nat} (h : StoreAt w F b s bd br bg p) : bd ≠ b ∧ br ≠ b ∧ bg ≠ b :=
  ⟨map_ne_cells h.docs h.root, map_ne_cells h.revs h.root, map_ne_cells h.groups h.root⟩

/-- What Del leaves. -/
def DelPost (w : World) (F : Nat → Prop) (b : Nat) (s : St) (id : Int) (bd br bg : Nat) (p : Int → Nat) (e : Ending) (w' : World) : Prop :=
  e = .returned (.int .i64 (s.getErr id)) ∧ StoreAt w' F b (s.delR id) bd br bg p ∧ Fr F w w'

theorem storeAt_del {w w1 w2 : World} {F : Nat → Prop} {b : Nat} {s : St} {id : Int} {d : Doc} {bd br bg : Nat} {p : Int → Nat} (h : StoreAt w F b s bd br bg p) (hid : 1 ≤ id ∧ id ≤ 9) (hd : s.docs id = some d)
    (h1 : MapFn w1 bg kInt (upd (fGroups s) d.group (decV (s.cnt d.group)))) (t1 : Turned bg w w1) (h2 : MapFn w2 bd kInt (upd (fDocs s p) id none)) (t2 : Turned bd w1 w2) : StoreAt w2 F b (s.del id) bd br bg p ∧ Fr F w w2 := by
  obtain ⟨n1, n2, n3⟩ := h.ne
  obtain ⟨m1, m2, m3⟩ := h.ne_root
  obtain ⟨o1, o2, o3, o4, o5⟩ := h.own
  refine ⟨⟨?_, ?_, ?_, ?_, ?_, ?_, h.ne, ⟨o1, o2, o3, o4, ?_⟩⟩, ?_⟩
  · rw [t2.other (Ne.symm m1), t1.other (Ne.symm m3)]; exact h.root
  · refine h2.congr fun k => ?_
    unfold upd fDocs
    by_cases hk : k = id
    · subst hk; rw [del_docs]; simp
    · rw [del_other s hk, if_neg hk]
  · intro i d' hi
    have hne : i ≠ id := by rintro rfl; rw [del_docs] at hi; cases hi
    rw [del_other s hne] at hi
    obtain ⟨q1, q2, q3⟩ := h.ne_doc hi
    rw [t2.other (Ne.symm q1), t1.other (Ne.symm q3)]; exact h.doc i d' hi
  · intro i j d1 d2 hi hj
    have hne : i ≠ id := by rintro rfl; rw [del_docs] at hi; cases hi
    have hne' : j ≠ id := by rintro rfl; rw [del_docs] at hj; cases hj
    rw [del_other s hne] at hi; rw [del_other s hne'] at hj
    exact h.inj i j d1 d2 hi hj
  · exact h.revs.keep ((t2.other (Ne.symm n1)).trans (t1.other n3))
  · rw [fGroups_del hid hd]
    exact h1.keep (t2.other (Ne.symm n2))
  · intro i d' hi
    have hne : i ≠ id := by rintro rfl; rw [del_docs] at hi; cases hi
    rw [del_other s hne] at hi
    exact o5 i d' hi
  · exact (t1.fr.mono (fun k _ e => by rw [e]; exact o4)).trans (t2.fr.mono (fun k _ e => by rw [e]; exact o2))

theorem _root_.Go.Tag.Fine.cnt_le {s : St} {B : Int} (h : Fine s B) (g : Int) : (s.cnt g : Int) ≤ 6 := by
  have := Go.Tag.cnt_le s g; have := h.size; omega
theorem fGroups_at {s : St} {id : Int} {d : Doc} (hid : 1 ≤ id ∧ id ≤ 9) (hd : s.docs id = some d) : fGroups s d.group = some (.int .i64 (s.cnt d.group)) := by
  have := cnt_pos hid hd
  unfold fGroups fNum; simp only []; rw [if_neg (by omega)]

set_option maxHeartbeats 400000 in
theorem storeDel_any (b bd br bg : Nat) (p : Int → Nat) (F : Nat → Prop) (s : St) (B : Int) (id : Int) (w : World) (h : StoreAt w F b s bd br bg p) (hg : Fine s B) :
    Calls Tryz.prog 84 #[.pointer (some ⟨b, 0, none⟩), .int .i64 id] w (DelPost w F b s id bd br bg p) := by
  have hc : w.cell? ⟨b, 0, none⟩ = some (.map (some bd)) := by rw [cell_of_heap h.root]; rfl
  have hbw := h.lt.1
  have hdw := h.lt.2.1
  by_cases hid : 1 ≤ id ∧ id ≤ 9
  · have hdd : decide (1 ≤ id ∧ id ≤ 9) = true := by simp; exact hid
    have hlk : (Instr.lookup 82 (.map (some bd)) (.int .i64 id) true).run Tryz.prog w = .ok (.tuple #[(fDocs s p id).getD (.pointer none), .bool (fDocs s p id).isSome]) w :=
      h.docs.lookup_ok (P := Tryz.prog) (t := 82) keyInt Tryz.underlying82 (zeroPD _) id
    cases hd : s.docs id with
    | none =>
      have HE : Hid (s.getErr id = 6 ∧ s.delR id = s) := ⟨getErr_none hid hd, delR_none hd⟩
      simp only [fDocs, hd, Option.map_none, Option.getD_none, Option.isSome_none] at hlk
      clear hd hid
      go_enter Tryz.func84, Tryz.ntmps84
      go_wp2_with (go_at_call 65; refine (goodId_any _ _).mono ?_; rintro e w' ⟨rfl, rfl⟩)
      go_ret
      exact ⟨by rw [HE.out.1]; rfl, by rw [HE.out.2]; exact h, Fr.refl _ _⟩
    | some d =>
      have hpd := h.doc id d hd
      have HE : Hid (s.getErr id = 0 ∧ s.delR id = s.del id) := ⟨getErr_some hid hd, delR_some hd⟩
      have HL : Hid (Calls Tryz.prog 101 #[.pointer (some ⟨b, 0, none⟩), .int .i64 d.group] w _) := leave_any b bd br bg (fGroups s) d.group (s.cnt d.group) w h.root h.groups (fGroups_at hid hd) (by have := cnt_pos hid hd; omega) (by have := hg.cnt_le d.group; omega)
      have HS : Hid (∀ w1 w2, MapFn w1 bg kInt (upd (fGroups s) d.group (decV (s.cnt d.group))) → Turned bg w w1 → MapFn w2 bd kInt (upd (fDocs s p) id none) → Turned bd w1 w2 → StoreAt w2 F b (s.del id) bd br bg p ∧ Fr F w w2) := fun w1 w2 a1 a2 a3 a4 => storeAt_del h hid hd a1 a2 a3 a4
      have HD := h.docs
      have n2 := h.ne.2.1
      have m3 := h.ne_root.2.2
      simp only [fDocs, hd, Option.map_some, Option.getD_some, Option.isSome_some] at hlk
      have k1 : w.cell? ⟨p id, 1, none⟩ = some (.int .i64 d.group) := by rw [cell_of_heap hpd]; rfl
      clear hd hid hpd
      go_enter Tryz.func84, Tryz.ntmps84
      go_wp2_with first
        | (go_at_call 65; refine (goodId_any _ _).mono ?_; rintro e w' ⟨rfl, rfl⟩)
        | (go_at_call 101; refine HL.out.mono ?_; rintro e w1 ⟨rfl, hm1, ht1⟩
           have hc1 := ht1.cell (Ne.symm m3) hc
           obtain ⟨w2, hdl, hm2, ht2⟩ := (HD.keep (ht1.other n2)).delete' (P := Tryz.prog) (t := 82) keyInt Tryz.underlying82 id
           simp only [kInt] at hdl
           have HT : Hid _ := HS.out w1 w2 hm1 ht1 hm2 ht2
           clear hm1 hm2 ht1 ht2)
      go_ret
      exact ⟨by rw [HE.out.1]; rfl, by rw [HE.out.2]; exact HT.out.1, HT.out.2⟩
  · have hdd : decide (1 ≤ id ∧ id ≤ 9) = false := by simp only [decide_eq_false_iff_not]; exact hid
    have HE : Hid (s.getErr id = 2 ∧ s.delR id = s) := ⟨getErr_bad hid, delR_none (hg.docs_none hid)⟩
    clear hid
    go_enter Tryz.func84, Tryz.ntmps84
    go_wp2_with (go_at_call 65; refine (goodId_any _ _).mono ?_; rintro e w' ⟨rfl, rfl⟩)
    go_ret
    exact ⟨by rw [HE.out.1]; rfl, by rw [HE.out.2]; exact h, Fr.refl _ _⟩
end Go.Proofs.Qxb6500357aGreat
