import Derived.Test.Qxb6500357aGreatStore2
import Derived.Test.Qxb6500357aGreatRangeM
namespace Go.Proofs.Qxb6500357aGreat
open Go.RowKit Go.Tag
set_option linter.unusedVariables false
set_option linter.unusedSimpArgs false
set_option maxRecDepth 100000
attribute [local simp] str_size
attribute [local go_sem] str_size

theorem fDocs_mem {s : St} {B : Int} (hg : Fine s B) (p : Int → Nat) (k : Int) : k ∈ s.ids ↔ (fDocs s p k).isSome = true := by rw [mem_ids hg]; simp [fDocs]

/-- Behind some rounds of the drop. -/
def DropRel (w : World) (s : St) (p : Int → Nat) (g : Int) (bd r : Nat) (n : Nat) (wr : World) : Prop :=
  ∃ left cnt, RangeFn wr bd r kInt (fDrop s p g left) left cnt ∧ n = nDrop s g left ∧ Fr (fun k => k = bd) w wr
/-- What DropGroup leaves. -/
def DropPost (w : World) (F : Nat → Prop) (b : Nat) (s : St) (g : Int) (bd br bg : Nat) (p : Int → Nat) (e : Ending) (w' : World) : Prop :=
  e = .returned (.int .i64 (s.cnt g)) ∧ StoreAt w' F b (s.drop g) bd br bg p ∧ Fr F w w'

theorem storeAt_drop {w w1 w2 : World} {F : Nat → Prop} {b : Nat} {s : St} {B : Int} {g : Int} {bd br bg : Nat} {p : Int → Nat} (h : StoreAt w F b s bd br bg p)
    (h1 : MapFn w1 bd kInt (fDocs (s.drop g) p)) (t1 : Fr (fun k => k = bd) w w1) (h2 : MapFn w2 bg kInt (upd (fGroups s) g none)) (t2 : Turned bg w1 w2) : StoreAt w2 F b (s.drop g) bd br bg p ∧ Fr F w w2 := by
  obtain ⟨n1, n2, n3⟩ := h.ne
  obtain ⟨m1, m2, m3⟩ := h.ne_root
  obtain ⟨o1, o2, o3, o4, o5⟩ := h.own
  have old : ∀ i d, (s.drop g).docs i = some d → s.docs i = some d := fun i d hi => by
    rw [drop_docs] at hi; split at hi
    · cases hi
    · exact hi
  refine ⟨⟨?_, ?_, ?_, ?_, ?_, ?_, h.ne, ⟨o1, o2, o3, o4, fun i d hi => o5 i d (old i d hi)⟩⟩, ?_⟩
  · rw [t2.other (Ne.symm m3), t1.block b h.lt.1 (Ne.symm m1)]; exact h.root
  · exact h1.keep (t2.other n2)
  · intro i d' hi
    have hi := old i d' hi
    obtain ⟨q1, q2, q3⟩ := h.ne_doc hi
    rw [t2.other (Ne.symm q3), t1.block _ (lt_of_heap (h.doc i d' hi)) (Ne.symm q1)]; exact h.doc i d' hi
  · intro i j d1 d2 hi hj
    exact h.inj i j d1 d2 (old i d1 hi) (old j d2 hj)
  · exact h.revs.keep ((t2.other n3).trans (t1.block _ h.revs.lt (Ne.symm n1)))
  · rw [fGroups_drop]; exact h2
  · exact (t1.mono (fun k _ e => by rw [e]; exact o2)).trans (t2.fr.mono (fun k _ e => by rw [e]; exact o4))

set_option maxHeartbeats 400000 in
theorem storeDrop_any (b bd br bg : Nat) (p : Int → Nat) (F : Nat → Prop) (s : St) (B : Int) (g : Int) (w : World) (h : StoreAt w F b s bd br bg p) (hg : Fine s B) :
    Calls Tryz.prog 85 #[.pointer (some ⟨b, 0, none⟩), .int .i64 g] w (DropPost w F b s g bd br bg p) := by
  have hc : w.cell? ⟨b, 0, none⟩ = some (.map (some bd)) := by rw [cell_of_heap h.root]; rfl
  have hc2 : w.cell? ⟨b, 2, none⟩ = some (.map (some bg)) := by rw [cell_of_heap h.root]; rfl
  have hbw := h.lt.1
  have hdw := h.lt.2.1
  have hn2 := h.ne.2.1
  have hm1 := h.ne_root.1
  obtain ⟨o, hrg, hR0⟩ := h.docs.range (P := Tryz.prog) (t := 82) keyInt Tryz.underlying82 (nodup_ids s) (fDocs_mem hg p)
  have HP0 : Hid (DropRel w s p g bd w.heap.size 0 (w.alloc o)) := ⟨_, _, by rw [fDrop_start]; exact hR0, by rw [nDrop_start], (Fr.refl _ _).alloc _⟩
  have HH : Hid (StoreAt w F b s bd br bg p ∧ Fine s B) := ⟨h, hg⟩
  clear hR0 h hg
  go_enter Tryz.func85, Tryz.ntmps85
  go_wp2
  go_loopw [5] (fun i wr => ∃ n : Nat, i = .int .i64 n ∧ DropRel w s p g bd w.heap.size n wr) (fun _ wr => toGo bd w.heap.size wr)
  case atStart => exact ⟨0, rfl, HP0.out⟩
  case round =>
    obtain ⟨n, rfl, left, cnt, hR, hn, hF⟩ := hrel
    have hcr := hF.cell hc (Ne.symm hm1)
    have hcr2 := hF.cell hc2 (Ne.symm hm1)
    have hn9 := nDrop_le s g left
    rw [← hn] at hn9
    rcases hR.next (P := Tryz.prog) keyInt 0 with ⟨h0, hall, hnx⟩ | ⟨k, v, w1, hlk, hfk, hnx, hpos, hR1, hF1, hsz, hen⟩
    · have HN : Hid (n = s.cnt g) := by rw [Hid, hn, nDrop_end s g left hall]
      obtain ⟨w2, hdl, hm2, ht2⟩ := (HH.out.1.groups.fr hF (Ne.symm hn2)).delete' (P := Tryz.prog) (t := 83) keyInt Tryz.underlying83 g
      simp only [kInt] at hdl
      have HT : Hid (StoreAt w2 F b (s.drop g) bd br bg p ∧ Fr F w w2) := storeAt_drop (B := B) HH.out.1 (by rw [← fDrop_end s p g left hall]; exact hR.map) hF hm2 ht2
      clear hm2 ht2 hn hR hall hF
      go_wp2
      go_ret
      exact ⟨by rw [← HN.out]; rfl, HT.out⟩
    · have hdk : ∃ d, s.docs k = some d := by
        unfold fDrop at hfk; split at hfk
        · cases hfk
        · unfold fDocs at hfk
          cases hd : s.docs k with
          | none => rw [hd] at hfk; cases hfk
          | some d => exact ⟨d, rfl⟩
      obtain ⟨d, hd⟩ := hdk
      have hv : v = .pointer (some ⟨p k, 0, none⟩) := by
        unfold fDrop at hfk; split at hfk
        · cases hfk
        · unfold fDocs at hfk; rw [hd] at hfk; exact (Option.some.inj hfk).symm
      subst hv
      have hF1' : Fr (fun k => k = bd) w w1 := hF.trans' hF1 (fun i hi e => by omega)
      have hcd := cell_of_heap (HH.out.1.doc k d hd) 1
      have hk1 := hF1'.cell hcd (Ne.symm (HH.out.1.ne_doc hd).1)
      have hcr1 := hF1'.cell hc (Ne.symm hm1)
      have hdom := HH.out.2.dom k d hd
      simp only [kInt] at hnx hen
      by_cases hgk : d.group = g
      · have hgb : (d.group == g) = true := by simp [hgk]
        obtain ⟨w2, hdl, hR2, ht2⟩ := hR1.delete' (P := Tryz.prog) (t := 82) keyInt Tryz.underlying82 (k := k) (by simp)
        simp only [kInt] at hdl
        have HT : Hid (DropRel w s p g bd w.heap.size (n + 1) w2 ∧ toGo bd w.heap.size w2 < toGo bd w.heap.size wr) := by
          refine ⟨⟨fun j => left j && !decide (j = k), cnt - 1, ?_, ?_, hF1'.trans ht2.fr⟩, ?_⟩
          · rw [← fDrop_gone s p g left k (by rw [inG_some hd]; simp [hgk])]; exact hR2
          · rw [nDrop_gone s g left k hdom.1 (by rw [inG_some hd]; simp [hgk]) hlk, hn]
          · rw [hR2.toGo, hR.toGo]; omega
        clear hR2 ht2 hR1 hR hF hF1 hF1' hn hgk hd hfk hcd
        go_wp2
        go_roundw
        case rel => exact ⟨n + 1, by go_num, HT.out.1⟩
        case measure => exact HT.out.2
      · have hgb : (d.group == g) = false := by simp [hgk]
        have HT : Hid (DropRel w s p g bd w.heap.size n w1 ∧ toGo bd w.heap.size w1 < toGo bd w.heap.size wr) := by
          refine ⟨⟨fun j => left j && !decide (j = k), cnt - 1, ?_, ?_, hF1'⟩, ?_⟩
          · rw [← fDrop_stay s p g left k (by rw [inG_some hd]; simp [hgk])]; exact hR1
          · rw [nDrop_stay s g left k (by rw [inG_some hd]; simp [hgk]), hn]
          · rw [hR1.toGo, hR.toGo]; omega
        clear hR1 hR hF hF1 hF1' hn hgk hd hfk hcd
        go_wp2
        go_roundw
        case rel => exact ⟨n, by go_num, HT.out.1⟩
        case measure => exact HT.out.2
end Go.Proofs.Qxb6500357aGreat
