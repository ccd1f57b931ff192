import Derived.Test.Qxb6500357aGreatStore4
namespace Go.Proofs.Qxb6500357aGreat
open Go.RowKit Go.Tag
set_option linter.unusedVariables false
set_option linter.unusedSimpArgs false
set_option maxRecDepth 100000
attribute [local simp] str_size
attribute [local go_sem] str_size

def docO (id g : Int) (t : List UInt8) : Obj := .cells #[.int .i64 id, .int .i64 g, .string (str t)] 88

theorem putErr_0 {s : St} {id g : Int} {t : List UInt8} (ht : t.length ≤ 12) (hid : 1 ≤ id ∧ id ≤ 9) (hg : 0 ≤ g ∧ g ≤ 2) (hx : textOK t = true) (hs : ¬ (s.docs id = none ∧ s.ids.length = 6)) : s.putErr id g t = 0 := by
  unfold St.putErr; rw [if_neg (by omega), if_neg (by simp; exact hid), if_neg (by simp; exact hg), if_neg (by rw [hx]; simp), if_neg hs]
theorem putR_0 {s : St} {id g : Int} {t : List UInt8} (h : s.putErr id g t = 0) : s.putR id g t = s.put id ⟨g, t⟩ := by unfold St.putR; rw [if_pos h]

section
variable (b bd br bg : Nat) (p : Int → Nat) (F : Nat → Prop) (s : St) (B : Int) (id g : Int) (t : List UInt8) (w : World)

set_option maxHeartbeats 400000 in
theorem put_full (h : StoreAt w F b s bd br bg p) (hf : Fine s B) (ht : t.length ≤ 12) (hid : 1 ≤ id ∧ id ≤ 9) (hg : 0 ≤ g ∧ g ≤ 2) (hx : textOK t = true) (hd : s.docs id = none) (h6 : s.ids.length = 6) : Calls Tryz.prog 81 #[.pointer (some ⟨b, 0, none⟩), .int .i64 id, .int .i64 g, .string (str t)] w (PutPost w F b s id g t bd br bg) := by
  have hl := h.lt
  have hk : ∀ o, StoreAt (w.alloc o) F b s bd br bg p := fun o => ⟨by rw [Below.heap_alloc _ _ _ hl.1]; exact h.root, h.docs.keep (Below.heap_alloc _ _ _ hl.2.1), fun i d hd => by rw [Below.heap_alloc _ _ _ (lt_of_heap (h.doc i d hd))]; exact h.doc i d hd, h.inj, h.revs.keep (Below.heap_alloc _ _ _ hl.2.2.1), h.groups.keep (Below.heap_alloc _ _ _ hl.2.2.2), h.ne, h.own⟩
  have HE : s.putErr id g t = 5 := by unfold St.putErr; rw [if_neg (by omega), if_neg (by simp; exact hid), if_neg (by simp; exact hg), if_neg (by rw [hx]; simp), if_pos ⟨hd, h6⟩]
  have HP : Hid (∀ o, PutPost w F b s id g t bd br bg (.returned (.int .i64 5)) (w.alloc o)) := fun o =>
    ⟨by rw [HE], ⟨p, by unfold St.putR; rw [if_neg (by rw [HE]; decide)]; exact (hk o).mono fun k hk => .inl hk⟩, (Fr.refl _ _).alloc _⟩
  have hdd : decide ((12 : Int) < (t.length : Int)) = false := by simp; omega
  have hdi : decide (1 ≤ id ∧ id ≤ 9) = true := by simp; exact hid
  have h1 : decide (g < 0) = false := by simp; omega
  have h2 : decide ((2 : Int) < g) = false := by simp; omega
  have HT : Hid (t.length ≤ 1000) := by show t.length ≤ 1000; omega
  have hc : ∀ o, (w.alloc o).cell? ⟨b, 0, none⟩ = some (.map (some bd)) := fun o => by rw [cell_of_heap (hk o).root]; rfl
  have hlk : ∀ o, (Instr.lookup 82 (.map (some bd)) (.int .i64 id) true).run Tryz.prog (w.alloc o) = .ok (.tuple #[.pointer none, .bool false]) (w.alloc o) := fun o => by
    have := (hk o).docs.lookup_ok (P := Tryz.prog) (t := 82) keyInt Tryz.underlying82 (zeroPD _) id
    simp only [fDocs, hd, Option.map_none, Option.getD_none, Option.isSome_none] at this
    exact this
  have hln : ∀ o ty, _ := fun o ty => (hk o).docs.len (P := Tryz.prog) (t := 82) keyInt Tryz.underlying82 (nodup_ids s) (fun k => by rw [mem_ids hf]; simp [fDocs]) ty
  rw [h6] at hln
  clear hid hg h6 hd HE hk h
  go_enter Tryz.func81, Tryz.ntmps81
  go_wp2_with first
    | (go_at_call 65; refine (goodId_any _ _).mono ?_; rintro e w' ⟨rfl, rfl⟩)
    | (go_at_call 100; refine (textOK_any _ _ HT.out).mono ?_; rintro e w' ⟨rfl, rfl⟩)
  go_ret
  exact HP.out _

theorem _root_.Go.Tag.StoreAt.alloc {w : World} {F : Nat → Prop} {b : Nat} {s : St} {bd br bg : Nat} {p : Int → Nat} (h : StoreAt w F b s bd br bg p) (o : Obj) : StoreAt (w.alloc o) F b s bd br bg p := by
  have hl := h.lt
  exact ⟨by rw [Below.heap_alloc _ _ _ hl.1]; exact h.root, h.docs.keep (Below.heap_alloc _ _ _ hl.2.1), fun i d hd => by rw [Below.heap_alloc _ _ _ (lt_of_heap (h.doc i d hd))]; exact h.doc i d hd, h.inj, h.revs.keep (Below.heap_alloc _ _ _ hl.2.2.1), h.groups.keep (Below.heap_alloc _ _ _ hl.2.2.2), h.ne, h.own⟩

theorem storeAt_new {w w0 w1 w2 w3 : World} {F : Nat → Prop} {b : Nat} {s : St} {B : Int} {id g : Int} {t : List UInt8} {bd br bg : Nat} {p : Int → Nat} (h : StoreAt w F b s bd br bg p) (hf : Fine s B) (hid : 1 ≤ id ∧ id ≤ 9) (hd : s.docs id = none)
    (h0 : w0 = w.alloc (docO id g t))
    (h1 : MapFn w1 bd kInt (upd (fDocs s p) id (some (.pointer (some ⟨w.heap.size, 0, none⟩))))) (t1 : Turned bd w0 w1)
    (h2 : MapFn w2 bg kInt (upd (fGroups s) g (some (.int .i64 ((s.cnt g : Int) + 1))))) (t2 : Turned bg w1 w2)
    (h3 : MapFn w3 br kInt (upd (fNum s.revs) id (some (.int .i64 (s.revs id + 1))))) (t3 : Turned br w2 w3) :
    StoreAt w3 (fun k => F k ∨ Since w w3 k) b (s.put id ⟨g, t⟩) bd br bg (fun i => if i = id then w.heap.size else p i) ∧ Fr F w w3 := by
  subst h0
  obtain ⟨n1, n2, n3⟩ := h.ne
  obtain ⟨m1, m2, m3⟩ := h.ne_root
  obtain ⟨o1, o2, o3, o4, o5⟩ := h.own
  have hl := h.lt
  have hs3 : w3.heap.size = w.heap.size + 1 := by rw [t3.size, t2.size, t1.size]; simp
  have keep : ∀ k, k < w.heap.size → k ≠ bd → k ≠ bg → k ≠ br → w3.heap[k]? = w.heap[k]? := fun k hk a1 a2 a3 => by
    rw [t3.other a3, t2.other a2, t1.other a1, Below.heap_alloc _ _ _ hk]
  have hnew : w3.heap[w.heap.size]? = some (docO id g t) := by
    rw [t3.other (by omega), t2.other (by omega), t1.other (by omega)]; exact heap_alloc_new _ _
  refine ⟨⟨?_, ?_, ?_, ?_, ?_, ?_, h.ne, ⟨.inl o1, .inl o2, .inl o3, .inl o4, ?_⟩⟩, ?_⟩
  · rw [keep b hl.1 (Ne.symm m1) (Ne.symm m3) (Ne.symm m2)]; exact h.root
  · rw [fDocs_put_new]
    exact h1.keep ((t3.other n1).trans (t2.other n2))
  · intro i d hi
    by_cases hii : i = id
    · subst hii; rw [put_docs] at hi; cases hi; simp only [if_true]; exact hnew
    · rw [put_other s _ hii] at hi
      obtain ⟨q1, q2, q3⟩ := h.ne_doc hi
      simp only [hii, if_false]
      rw [keep _ (lt_of_heap (h.doc i d hi)) (Ne.symm q1) (Ne.symm q3) (Ne.symm q2)]; exact h.doc i d hi
  · intro i j d1 d2 hi hj hij
    by_cases hii : i = id <;> by_cases hjj : j = id
    · rw [hii, hjj]
    · rw [put_other s _ hjj] at hj
      simp only [hii, hjj, if_true, if_false] at hij
      have := lt_of_heap (h.doc j d2 hj); omega
    · rw [put_other s _ hii] at hi
      simp only [hii, hjj, if_true, if_false] at hij
      have := lt_of_heap (h.doc i d1 hi); omega
    · rw [put_other s _ hii] at hi; rw [put_other s _ hjj] at hj
      simp only [hii, hjj, if_false] at hij
      exact h.inj i j d1 d2 hi hj hij
  · rw [fRevs_put hf]; exact h3
  · rw [fGroups_put_new hid hd]; exact h2.keep (t3.other (Ne.symm n3))
  · intro i d hi
    by_cases hii : i = id
    · subst hii; simp only [if_true]; right; unfold Since; omega
    · rw [put_other s _ hii] at hi
      simp only [hii, if_false]; exact .inl (o5 i d hi)
  · exact (((Fr.refl F w).alloc _).trans' (t1.fr) (fun k _ e => by rw [e]; exact o2)).trans' t2.fr (fun k _ e => by rw [e]; exact o4) |>.trans' t3.fr (fun k _ e => by rw [e]; exact o3)

set_option maxHeartbeats 400000 in
theorem put_new (h : StoreAt w F b s bd br bg p) (hf : Fine s B) (hB : B < 9223372036854775807) (ht : t.length ≤ 12) (hid : 1 ≤ id ∧ id ≤ 9) (hg : 0 ≤ g ∧ g ≤ 2) (hx : textOK t = true) (hd : s.docs id = none) (h6 : s.ids.length ≠ 6) : Calls Tryz.prog 81 #[.pointer (some ⟨b, 0, none⟩), .int .i64 id, .int .i64 g, .string (str t)] w (PutPost w F b s id g t bd br bg) := by
  have hE : s.putErr id g t = 0 := putErr_0 ht hid hg hx (fun e => h6 e.2)
  have hdd : decide ((12 : Int) < (t.length : Int)) = false := by simp; omega
  have hdi : decide (1 ≤ id ∧ id ≤ 9) = true := by simp; exact hid
  have h1 : decide (g < 0) = false := by simp; omega
  have h2 : decide ((2 : Int) < g) = false := by simp; omega
  have HT : Hid (t.length ≤ 1000) := by show t.length ≤ 1000; omega
  have H0 := h.alloc (docO id g t)
  obtain ⟨n1, n2, n3⟩ := h.ne
  obtain ⟨m1, m2, m3⟩ := h.ne_root
  have hlk : (Instr.lookup 82 (.map (some bd)) (.int .i64 id) true).run Tryz.prog (w.alloc (docO id g t)) = .ok (.tuple #[.pointer none, .bool false]) (w.alloc (docO id g t)) := by
    have := H0.docs.lookup_ok (P := Tryz.prog) (t := 82) keyInt Tryz.underlying82 (zeroPD _) id
    simp only [fDocs, hd, Option.map_none, Option.getD_none, Option.isSome_none] at this
    exact this
  have hln := fun ty => H0.docs.len (P := Tryz.prog) (t := 82) keyInt Tryz.underlying82 (nodup_ids s) (fun k => by rw [mem_ids hf]; simp [fDocs]) ty
  have hl6 : ((s.ids.length : Int) == 6) = false := by simp; omega
  obtain ⟨w1, hu1, hM1, ht1⟩ := H0.docs.update' (P := Tryz.prog) (t := 82) keyInt Tryz.underlying82 id (.pointer (some ⟨w.heap.size, 0, none⟩))
  have hG1 := H0.groups.keep (ht1.other (Ne.symm n2))
  have hl1 : (Instr.lookup 83 (.map (some bg)) (.int .i64 g) false).run Tryz.prog w1 = .ok (.int .i64 (s.cnt g)) w1 := by
    have := hG1.lookup_v (P := Tryz.prog) (t := 83) keyInt Tryz.underlying83 (zero3 _) g
    unfold fGroups at this
    rw [fNum_getD] at this; exact this
  obtain ⟨w2, hu2, hM2, ht2⟩ := hG1.update' (P := Tryz.prog) (t := 83) keyInt Tryz.underlying83 g (.int .i64 ((s.cnt g : Int) + 1))
  have hR2 := H0.revs.keep ((ht2.other n3).trans (ht1.other (Ne.symm n1)))
  have hl2 : (Instr.lookup 83 (.map (some br)) (.int .i64 id) false).run Tryz.prog w2 = .ok (.int .i64 (s.revs id)) w2 := by
    have := hR2.lookup_v (P := Tryz.prog) (t := 83) keyInt Tryz.underlying83 (zero3 _) id
    rw [fNum_getD] at this; exact this
  obtain ⟨w3, hu3, hM3, ht3⟩ := hR2.update' (P := Tryz.prog) (t := 83) keyInt Tryz.underlying83 id (.int .i64 (s.revs id + 1))
  have HS : Hid (PutPost w F b s id g t bd br bg (.returned (.int .i64 0)) w3) := by
    have hh := storeAt_new h hf hid hd rfl hM1 ht1 hM2 ht2 hM3 ht3
    exact ⟨by rw [hE], ⟨_, by rw [putR_0 hE]; exact hh.1⟩, hh.2⟩
  have c0 : (w.alloc (docO id g t)).cell? ⟨b, 0, none⟩ = some (.map (some bd)) := by rw [cell_of_heap H0.root]; rfl
  have c1 : w1.cell? ⟨b, 2, none⟩ = some (.map (some bg)) := ht1.cell (Ne.symm m1) (by rw [cell_of_heap H0.root]; rfl)
  have c2 : w2.cell? ⟨b, 1, none⟩ = some (.map (some br)) := ht2.cell (Ne.symm m3) (ht1.cell (Ne.symm m1) (by rw [cell_of_heap H0.root]; rfl))
  have hr1 : 0 ≤ s.revs id := (hf.revs id).1
  have hr2 : s.revs id < 9223372036854775807 := by have := (hf.revs id).2; omega
  have hc9 : (s.cnt g : Int) ≤ 6 := hf.cnt_le g
  generalize s.revs id = rv at *
  generalize s.cnt g = cg at *
  simp only [kInt, docO] at hu1 hu2 hu3 hlk hln c0
  clear hid hg h6 hd hE h H0 hM1 hM2 hM3 ht1 ht2 ht3 hG1 hR2 hf hB
  go_enter Tryz.func81, Tryz.ntmps81
  go_wp2_with first
    | (go_at_call 65; refine (goodId_any _ _).mono ?_; rintro e w' ⟨rfl, rfl⟩)
    | (go_at_call 100; refine (textOK_any _ _ HT.out).mono ?_; rintro e w' ⟨rfl, rfl⟩)
  go_ret
  exact HS.out
end
end Go.Proofs.Qxb6500357aGreat
