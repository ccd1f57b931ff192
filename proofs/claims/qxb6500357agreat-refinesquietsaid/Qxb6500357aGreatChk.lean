/- The store's own Check. -/
import Derived.Test.Qxb6500357aGreatStore3
import Derived.Test.Qxb6500357aGreatShow
import Derived.Test.Qxb6500357aGreatGroups
import Derived.BigQuiet
namespace Go.Tag
open Go.RowKit Go.Proofs.Qxb6500357aGreat
set_option linter.unusedVariables false
set_option linter.unusedSimpArgs false
/-- A document that stands was put. -/
def Pos (s : St) : Prop := ∀ i d, s.docs i = some d → 1 ≤ s.revs i
def gKeys (s : St) : List Int := ([0, 1, 2] : List Int).filter fun g => decide (s.cnt g ≠ 0)
def rKeys (s : St) : List Int := idsAll.filter fun i => decide (s.revs i ≠ 0)
theorem gKeys_nodup (s : St) : (gKeys s).Nodup := (List.filter_sublist).nodup (by decide)
theorem rKeys_nodup (s : St) : (rKeys s).Nodup := (List.filter_sublist).nodup nodup_idsAll
theorem fNum_some (f : Int → Int) (i : Int) : (fNum f i).isSome = true ↔ f i ≠ 0 := by
  unfold fNum; by_cases h : f i = 0 <;> simp [h]
theorem gKeys_mem {s : St} {B : Int} (h : Fine s B) (g : Int) : g ∈ gKeys s ↔ (fGroups s g).isSome = true := by
  unfold fGroups
  rw [fNum_some]
  unfold gKeys
  rw [List.mem_filter, decide_eq_true_eq]
  constructor
  · rintro ⟨_, h2⟩ e; exact h2 (by omega)
  · intro h2
    have h3 : s.cnt g ≠ 0 := fun e => h2 (by omega)
    refine ⟨?_, h3⟩
    unfold St.cnt at h3
    have hne : (s.ids.filter fun i => decide (s.groupOf i = g)) ≠ [] := fun e => h3 (by rw [e]; rfl)
    obtain ⟨i, hi⟩ := List.exists_mem_of_ne_nil _ hne
    obtain ⟨h4, h5⟩ := List.mem_filter.1 hi
    obtain ⟨d, hd⟩ := Option.isSome_iff_exists.1 ((mem_ids h i).1 h4)
    have h6 := (h.dom i d hd).2.1
    have h7 : s.groupOf i = g := by simpa using h5
    rw [groupOf_some hd] at h7
    simp only [List.mem_cons, List.not_mem_nil, or_false]
    omega
theorem rKeys_mem {s : St} {B : Int} (h : Fine s B) (i : Int) : i ∈ rKeys s ↔ (fNum s.revs i).isSome = true := by
  rw [fNum_some]
  unfold rKeys
  rw [List.mem_filter, decide_eq_true_eq, mem_idsAll]
  constructor
  · exact fun e => e.2
  · intro e
    refine ⟨?_, e⟩
    rcases Classical.em (1 ≤ i ∧ i ≤ 9) with h1 | h1
    · exact h1
    · exact absurd (h.out i h1) e
theorem fNum_get {f : Int → Int} {i : Int} {v : Value} (h : fNum f i = some v) : v = .int .i64 (f i) ∧ f i ≠ 0 := by
  unfold fNum at h
  by_cases e : f i = 0
  · rw [if_pos e] at h; cases h
  · rw [if_neg e] at h; cases h; exact ⟨rfl, e⟩
theorem nDrop_upd (s : St) (left : Int → Bool) (k : Int) (d : Doc) (hd : s.docs k = some d) (hid : 1 ≤ k ∧ k ≤ 9) (hl : left k = true) : (fNum fun g => (nDrop s g (fun j => left j && !decide (j = k)) : Int)) = upd (fNum fun g => (nDrop s g left : Int)) d.group (some (.int .i64 ((nDrop s d.group left : Int) + 1))) := by
  funext g
  unfold fNum upd
  simp only []
  by_cases e : g = d.group
  · subst e
    rw [nDrop_gone s d.group left k hid (by rw [inG_some hd]; simp) hl]
    rw [if_pos rfl, if_neg (by omega)]
    congr 2
  · rw [nDrop_stay s g left k (by rw [inG_some hd]; simp; exact fun e' => e e'.symm), if_neg e]
end Go.Tag
namespace Go.Proofs.Qxb6500357aGreat
open Go.RowKit Go.Tag
set_option linter.unusedVariables false
set_option linter.unusedSimpArgs false
set_option maxRecDepth 100000
attribute [local simp] str_size
attribute [local go_sem] str_size
theorem mapNe82 (b : Nat) (w : World) : (binOp BinOp.eql 82 (.map (some b)) (.map none)).run Tryz.prog w = .ok (.bool false) w := by kernel_rfl
theorem mapNe83 (b : Nat) (w : World) : (binOp BinOp.eql 83 (.map (some b)) (.map none)).run Tryz.prog w = .ok (.bool false) w := by kernel_rfl
theorem mapNe71 (b : Nat) (w : World) : (binOp BinOp.eql 71 (.map (some b)) (.map none)).run Tryz.prog w = .ok (.bool false) w := by kernel_rfl
theorem mapNe72 (b : Nat) (w : World) : (binOp BinOp.eql 72 (.map (some b)) (.map none)).run Tryz.prog w = .ok (.bool false) w := by kernel_rfl
theorem mapNe93 (b : Nat) (w : World) : (binOp BinOp.eql 93 (.map (some b)) (.map none)).run Tryz.prog w = .ok (.bool false) w := by kernel_rfl
/-- The first loop's state. -/
def ChkI (w : World) (s : St) (p : Int → Nat) (bd : Nat) (wr : World) : Prop :=
  ∃ left cnt, RangeFn wr bd (w.heap.size + 1) kInt (fDocs s p) left cnt ∧ MapFn wr w.heap.size kInt (fNum fun g => (nDrop s g left : Int)) ∧ Fr No w wr
/-- The other loops'. -/
def ChkJ (w : World) (f : Int → Option Value) (bm r : Nat) (w2 wr : World) : Prop :=
  ∃ left cnt, RangeFn wr bm r kInt f left cnt ∧ Fr (fun k => k = r) w2 wr
set_option maxHeartbeats 4000000 in
theorem storeCheck_any (b bd br bg : Nat) (p : Int → Nat) (F : Nat → Prop) (s : St) (B : Int) (w : World) (h : StoreAt w F b s bd br bg p) (hf : Fine s B) (hp : Pos s) :
    Calls Tryz.prog 33 #[.pointer (some ⟨b, 0, none⟩)] w fun e w' => e = .returned (.bool true) ∧ Fr No w w' := by
  have HS : Hid (∀ W, Fr No w W → StoreAt W F b s bd br bg p) := fun W f => StoreAt_frNo h f
  have HC : Hid (∀ W, Fr No w W → W.cell? ⟨b, 0, none⟩ = some (.map (some bd)) ∧ W.cell? ⟨b, 1, none⟩ = some (.map (some br)) ∧ W.cell? ⟨b, 2, none⟩ = some (.map (some bg)) ∧ b < W.heap.size) := fun W f => by
    have hS := StoreAt_frNo h f
    refine ⟨?_, ?_, ?_, lt_of_heap hS.root⟩ <;> (rw [cell_of_heap hS.root]; rfl)
  obtain ⟨c0, c1, c2, hbl⟩ := HC.out w (Fr.refl _ _)
  have hln := fun ty => h.docs.len (P := Tryz.prog) (t := 82) keyInt Tryz.underlying82 (nodup_ids s) (fDocs_mem hf p) ty
  have hn6 := hf.size
  have hd6 : decide ((6 : Int) < (s.ids.length : Int)) = false := by simp; omega
  have hd6n : decide (6 < s.ids.length) = false := by simp; omega
  have hmm := @run_makeMap Tryz.prog
  obtain ⟨o, hrg, hR0⟩ := (h.docs.fr ((Fr.refl No w).alloc (.map #[] 0)) (fun h => h)).range (P := Tryz.prog) (t := 82) keyInt Tryz.underlying82 (nodup_ids s) (fDocs_mem hf p)
  simp only [World.size_alloc] at hrg hR0
  have hdw := h.lt.2.1
  have H0 : Hid (ChkI w s p bd ((w.alloc (.map #[] 0)).alloc o)) := by
    refine ⟨_, _, hR0, ?_, ((Fr.refl No w).alloc _).alloc _⟩
    have h1 : MapFn ((w.alloc (.map #[] 0)).alloc o) w.heap.size kInt (fun _ => none) := (mapFn_new w).fr ((Fr.refl No _).alloc o) (fun h => h)
    exact h1.congr (fun g => by unfold fNum; simp only [nDrop_start]; simp)
  have HFP : Hid (Fine s B ∧ Pos s) := ⟨hf, hp⟩
  have HNE : Hid (bd ≠ w.heap.size ∧ bd < w.heap.size ∧ br < w.heap.size ∧ bg < w.heap.size) := by have := h.lt; exact ⟨by omega, this.2.1, this.2.2.1, this.2.2.2⟩
  clear h hf hp hR0
  have hmn2 := mapNe82
  have hmn3 := mapNe83
  go_enter Tryz.func33, Tryz.ntmps33
  go_wp2
  go_loopw [4, 5] (fun _ _ wr => ChkI w s p bd wr) (fun _ _ wr => toGo bd (w.heap.size + 1) wr)
  case atStart => exact H0.out
  case round =>
    obtain ⟨left, cnt, hR, hM, hF⟩ := hrel
    have htg := hR.toGo
    rcases hR.next (P := Tryz.prog) keyInt 0 with ⟨h0, hall, hnx⟩ | ⟨k, v, w1, hlk, hfk, hnx, hpos, hR1, hF1, hsz, hen⟩
    · have e2 : (fNum fun g => (nDrop s g left : Int)) = fGroups s := by
        unfold fGroups; congr 1; funext g; rw [nDrop_end s g left hall]
      rw [e2] at hM
      obtain ⟨d0, d1, d2, dbl⟩ := HC.out wr hF
      have hS := HS.out wr hF
      have hl3 := fun (n : Nat) ty => (hM.fr ((Fr.refl No wr).drewN n) (fun h => h)).len (P := Tryz.prog) (t := 83) keyInt Tryz.underlying83 (gKeys_nodup s) (gKeys_mem HFP.out.1) ty
      have hl4 := fun (n : Nat) ty => (hS.groups.fr ((Fr.refl No wr).drewN n) (fun h => h)).len (P := Tryz.prog) (t := 83) keyInt Tryz.underlying83 (gKeys_nodup s) (gKeys_mem HFP.out.1) ty
      have hgk : (((gKeys s).length : Int) == ((gKeys s).length : Int)) = true := by simp
      have hl1 := fun ty => hM.len (P := Tryz.prog) (t := 83) keyInt Tryz.underlying83 (gKeys_nodup s) (gKeys_mem HFP.out.1) ty
      have hl2 := fun ty => hS.groups.len (P := Tryz.prog) (t := 83) keyInt Tryz.underlying83 (gKeys_nodup s) (gKeys_mem HFP.out.1) ty
      have HM : Hid (MapFn wr w.heap.size kInt (fGroups s) ∧ StoreAt wr F b s bd br bg p ∧ Fr No w wr) := ⟨hM, hS, hF⟩
      clear hR hM hS hF e2 hall hmm
      obtain ⟨wa, hwa⟩ : ∃ wa, wa = wr := ⟨_, rfl⟩
      subst hwa
      go_wp2
      go_quiet (fail)
      obtain ⟨o2, hrg2, hR2⟩ := (HM.out.2.1.groups.fr ((Fr.refl No wa).drewN nq) (fun h => h)).range (P := Tryz.prog) (t := 83) keyInt Tryz.underlying83 (gKeys_nodup s) (gKeys_mem HFP.out.1)
      have hd2 : (wa.drewN nq).cell? ⟨b, 2, none⟩ = some (.map (some bg)) := d2
      have H2 : Hid (ChkJ w (fGroups s) bg wa.heap.size ((wa.drewN nq).alloc o2) ((wa.drewN nq).alloc o2)) := ⟨_, _, hR2, Fr.refl _ _⟩
      have HW2 : Hid (Fr No w ((wa.drewN nq).alloc o2) ∧ Fr No wa ((wa.drewN nq).alloc o2)) := ⟨(HM.out.2.2.drewN nq).alloc o2, ((Fr.refl No wa).drewN nq).alloc o2⟩
      clear hR2
      go_wp2
      go_loopw [6, 7] (fun _ _ wr => ChkJ w (fGroups s) bg wa.heap.size ((wa.drewN nq).alloc o2) wr) (fun _ _ wr => toGo bg wa.heap.size wr)
      case atStart => exact H2.out
      case round =>
        obtain ⟨left, cnt, hR, hF⟩ := hrel
        have htg := hR.toGo
        have hFa : Fr No wa wr := HW2.out.2.trans' hF (fun i hi e => by omega)
        have hwsz := HM.out.2.2.size
        rcases hR.next (P := Tryz.prog) keyInt 0 with ⟨h0, hall, hnx⟩ | ⟨k, v, w1, hlk, hfk, hnx, hpos, hR1, hF1, hsz, hen⟩
        · have hFw : Fr No w wr := HM.out.2.2.trans hFa
          obtain ⟨d0, d1, d2, dbl⟩ := HC.out wr hFw
          obtain ⟨o3, hrg3, hR3⟩ := (HS.out wr hFw).revs.range (P := Tryz.prog) (t := 83) keyInt Tryz.underlying83 (rKeys_nodup s) (rKeys_mem HFP.out.1)
          obtain ⟨wb, hwb⟩ : ∃ wb, wb = wr := ⟨_, rfl⟩
          subst hwb
          have H3 : Hid (ChkJ w (fNum s.revs) br wb.heap.size (wb.alloc o3) (wb.alloc o3)) := ⟨_, _, hR3, Fr.refl _ _⟩
          have HW3 : Hid (Fr No w (wb.alloc o3)) := hFw.alloc o3
          have hwb2 : w.heap.size ≤ wb.heap.size := hFw.size
          clear hR hF hFa hFw hR3 hall
          go_wp2
          go_loopw [8, 9] (fun _ _ wr => ChkJ w (fNum s.revs) br wb.heap.size (wb.alloc o3) wr) (fun _ _ wr => toGo br wb.heap.size wr)
          case atStart => exact H3.out
          case round =>
            obtain ⟨left, cnt, hR, hF⟩ := hrel
            have htg := hR.toGo
            rcases hR.next (P := Tryz.prog) keyInt 0 with ⟨h0, hall, hnx⟩ | ⟨k, v, w1, hlk, hfk, hnx, hpos, hR1, hF1, hsz, hen⟩
            · have HE : Hid (Fr No w wr) := HW3.out.trans' hF (fun i hi e => by omega)
              clear hR hF hall
              go_wp2
              go_ret
              exact ⟨rfl, HE.out⟩
            · obtain ⟨rfl, hv0⟩ := fNum_get hfk
              simp only [kInt] at hnx hen
              have hrv := (HFP.out.1.revs k).1
              have hk9 : 1 ≤ k ∧ k ≤ 9 := by
                rcases Classical.em (1 ≤ k ∧ k ≤ 9) with h1 | h1
                · exact h1
                · exact absurd (HFP.out.1.out k h1) hv0
              have hgd : decide (1 ≤ k ∧ k ≤ 9) = true := by simp; exact hk9
              have hlt1 : decide (s.revs k < 1) = false := by simp; omega
              have hlt2 : ¬ s.revs k < 1 := by omega
              have HK : Hid (ChkJ w (fNum s.revs) br wb.heap.size (wb.alloc o3) w1 ∧ toGo br wb.heap.size w1 < cnt) := ⟨⟨_, _, hR1, hF.trans hF1⟩, by rw [hR1.toGo]; omega⟩
              generalize s.revs k = rv at *
              clear hR hF hR1 hF1 hfk hlk hk9 hv0 hrv
              go_wp2_with (go_at_call 65; refine (goodId_any _ _).mono ?_; rintro e w' ⟨rfl, hw'⟩; have hw' := hw'.symm; subst hw')
              go_roundw
              case rel => exact HK.out.1
              case measure => rw [htg]; exact HK.out.2
        · obtain ⟨hv, hv0⟩ := fNum_get hfk
          subst hv
          simp only [kInt] at hnx hen
          have hFa1 : Fr No wa w1 := hFa.trans' hF1 (fun i hi e => by omega)
          have hlk2 : (Instr.lookup 83 (.map (some w.heap.size)) (.int .i64 k) false).run Tryz.prog w1 = .ok (.int .i64 (s.cnt k : Int)) w1 := by
            have := (HM.out.1.fr hFa1 (fun h => h)).lookup_v (P := Tryz.prog) (t := 83) keyInt Tryz.underlying83 (zero3 _) k
            unfold fGroups at this
            rw [fNum_getD] at this; exact this
          have hlt1 : decide ((s.cnt k : Int) < 1) = false := by simp; omega
          have hlt2 : ¬ (s.cnt k : Int) < 1 := by omega
          have hlt3 : decide (s.cnt k < 1) = false := by simp; omega
          have hlt4 : decide (s.cnt k = 0) = false := by simp; omega
          have hlt5 : ¬ s.cnt k = 0 := by omega
          have HK : Hid (ChkJ w (fGroups s) bg wa.heap.size ((wa.drewN nq).alloc o2) w1 ∧ toGo bg wa.heap.size w1 < cnt) := ⟨⟨_, _, hR1, hF.trans hF1⟩, by rw [hR1.toGo]; omega⟩
          generalize s.cnt k = ck at *
          clear hR hF hR1 hF1 hfk hlk hFa hFa1 hv0
          go_wp2
          go_roundw
          case rel => exact HK.out.1
          case measure => rw [htg]; exact HK.out.2
    · obtain ⟨d, hd⟩ : ∃ d, s.docs k = some d := by
        unfold fDocs at hfk
        cases hd : s.docs k with
        | none => rw [hd] at hfk; cases hfk
        | some d => exact ⟨d, rfl⟩
      have hv : v = .pointer (some ⟨p k, 0, none⟩) := by
        unfold fDocs at hfk; rw [hd] at hfk; cases hfk; rfl
      subst hv
      simp only [kInt] at hnx hen
      have hdm := HFP.out.1.dom k d hd
      have hps := HFP.out.2 k d hd
      have hFw1 : Fr No w w1 := hF.trans' hF1 (fun i hi e => by omega)
      obtain ⟨d0, d1, d2, dbl⟩ := HC.out w1 hFw1
      have hS := HS.out w1 hFw1
      have hcd := hS.doc k d hd
      have k0 := cell_of_heap hcd 0
      have k1 := cell_of_heap hcd 1
      have k2 := cell_of_heap hcd 2
      simp only [List.getElem?_toArray, List.getElem?_cons_zero, List.getElem?_cons_succ] at k0 k1 k2
      have hrl : (Instr.lookup 83 (.map (some br)) (.int .i64 k) false).run Tryz.prog w1 = .ok (.int .i64 (s.revs k)) w1 := by
        have := hS.revs.lookup_v (P := Tryz.prog) (t := 83) keyInt Tryz.underlying83 (zero3 _) k
        rw [fNum_getD] at this; exact this
      have hM1 := hM.fr hF1 (by have := hR.ne; omega)
      have hll := hM1.lookup_v (P := Tryz.prog) (t := 83) keyInt Tryz.underlying83 (zero3 _) d.group
      rw [fNum_getD] at hll
      obtain ⟨w3, hu3, hM3, ht3⟩ := hM1.update' (P := Tryz.prog) (t := 83) keyInt Tryz.underlying83 d.group (.int .i64 ((nDrop s d.group left : Int) + 1))
      simp only [kInt] at hu3 hll
      have hnl := nDrop_le s d.group left
      have HK : Hid (ChkI w s p bd w3 ∧ toGo bd (w.heap.size + 1) w3 < cnt) := by
        have hR3 : RangeFn w3 bd (w.heap.size + 1) kInt (fDocs s p) (fun j => left j && !decide (j = k)) (cnt - 1) := hR1.fr ht3.fr HNE.out.1 (by omega)
        refine ⟨⟨_, _, hR3, ?_, hFw1.trans' ht3.fr (fun i hi e => by omega)⟩, by rw [hR3.toGo]; omega⟩
        rw [nDrop_upd s left k d hd hdm.1 hlk]; exact hM3
      obtain ⟨hk9, ⟨g1, g2⟩, t1, -⟩ := hdm
      have hgd : decide (1 ≤ k ∧ k ≤ 9) = true := by simp; exact hk9
      have q1 : decide (d.group < 0) = false := by simp; omega
      have q2 : ¬ d.group < 0 := by omega
      have q3 : decide (2 < d.group) = false := by simp; omega
      have q4 : ¬ 2 < d.group := by omega
      have q5 : decide ((12 : Int) < (d.text.length : Int)) = false := by simp; omega
      have q6 : ¬ (12 : Int) < (d.text.length : Int) := by omega
      have q7 : decide (s.revs k < 1) = false := by simp; omega
      have q8 : ¬ s.revs k < 1 := by omega
      generalize s.revs k = rv at *
      generalize nDrop s d.group left = nd at *
      generalize p k = pk at *
      obtain ⟨dg, dt⟩ := d
      simp only [] at k1 k2 q1 q2 q3 q4 q5 q6 hll hu3
      clear hR hM hF hR1 hF1 hfk hlk hd hS hcd hM1 hM3 ht3 hFw1
      go_wp2_with (go_at_call 65; refine (goodId_any _ _).mono ?_; rintro e w' ⟨rfl, hw'⟩; have hw' := hw'.symm; subst hw')
      go_roundw
      case rel => exact HK.out.1
      case measure => rw [htg]; exact HK.out.2
end Go.Proofs.Qxb6500357aGreat
