import Derived.Test.Qxb6500585aParts
namespace Go.Proofs.Qxb6500585a
open Go.RowKit Go.CommN Go.Conc

theorem sep_at (p q o : List UInt8) (hp : ∀ c ∈ p, c.toNat ≠ 59) (hq : ∀ c ∈ q, c.toNat ≠ 59) (ho : ∀ c ∈ o, c.toNat ≠ 59) (i : Nat) (h : i < (p ++ 59 :: (q ++ 59 :: o)).length) :
    ((p ++ 59 :: (q ++ 59 :: o))[i]).toNat = 59 ↔ (i = p.length ∨ i = p.length + q.length + 1) := by
  by_cases h1 : i < p.length
  · rw [List.getElem_append_left h1]
    constructor
    · intro e; exact absurd e (hp _ (List.getElem_mem h1))
    · intro e; omega
  · rw [List.getElem_append_right (by omega)]
    obtain ⟨j, rfl⟩ : ∃ j, i = p.length + j := ⟨i - p.length, by omega⟩
    simp only [Nat.add_sub_cancel_left]
    cases j with
    | zero => simp
    | succ j =>
      simp only [List.getElem_cons_succ]
      by_cases h3 : j < q.length
      · rw [List.getElem_append_left h3]
        constructor
        · intro e; exact absurd e (hq _ (List.getElem_mem h3))
        · intro e; omega
      · rw [List.getElem_append_right (by omega)]
        obtain ⟨k, rfl⟩ : ∃ k, j = q.length + k := ⟨j - q.length, by omega⟩
        simp only [Nat.add_sub_cancel_left]
        cases k with
        | zero => simp; omega
        | succ k =>
          simp only [List.getElem_cons_succ]
          have h5 : k < o.length := by simp at h; omega
          constructor
          · intro e; exact absurd e (ho _ (List.getElem_mem h5))
          · intro e; omega

theorem part_lists (p q o : List UInt8) (hl : (p ++ 59 :: (q ++ 59 :: o)).length ≤ 1000) (hp : ∀ c ∈ p, c.toNat ≠ 59) (hq : ∀ c ∈ q, c.toNat ≠ 59) (ho : ∀ c ∈ o, c.toNat ≠ 59) (w : World) :
    Calls Try.prog 20 #[.string ⟨(p ++ 59 :: (q ++ 59 :: o)).toArray⟩, .int .i64 2] w fun e w' => e = .returned (.string ⟨o.toArray⟩) ∧ w' = w := by
  have hsz : (⟨(p ++ 59 :: (q ++ 59 :: o)).toArray⟩ : ByteArray).size = p.length + q.length + o.length + 2 := by simp [ByteArray.size]; omega
  refine (part_any ⟨(p ++ 59 :: (q ++ 59 :: o)).toArray⟩ p.length q.length o.length hsz (by rw [hsz]; simp at hl; omega) (fun i h => ?_) w).mono ?_
  · have := sep_at p q o hp hq ho i (by rw [hsz] at h; simp; omega)
    exact this
  · rintro e w' ⟨rfl, rfl⟩
    refine ⟨?_, rfl⟩
    congr 2
    apply ByteArray.ext
    simp only [ByteArray.data_extract, hsz, List.extract_toArray, List.extract_eq_take_drop]
    congr 1
    have e1 : (p ++ 59 :: (q ++ 59 :: o)) = (p ++ 59 :: (q ++ [59])) ++ o := by simp
    rw [e1, List.drop_left' (by simp; omega), List.take_of_length_le (by omega)]

theorem hex_no59 : ∀ n, (hexd n).toNat ≠ 59 := by
  intro n
  by_cases h : n < 16
  · have : ∀ k : Fin 16, (hexd k.val).toNat ≠ 59 := by decide +kernel
    exact this ⟨n, h⟩
  · have : hexd n = 0 := by simp [hexd, digits, Array.getD]; omega
    rw [this]; decide
theorem hexs_no59 (l : List Int) : ∀ c ∈ hexs l, c.toNat ≠ 59 := by
  intro c hc
  simp only [hexs, List.mem_flatMap] at hc
  obtain ⟨v, _, hv⟩ := hc
  simp only [hex2, List.mem_cons, List.not_mem_nil, or_false] at hv
  rcases hv with rfl | rfl <;> exact hex_no59 _

set_option maxHeartbeats 1000000 in
theorem full_walk (w : World) : Calls Try.prog 13 #[] w fun e w' => e = .returned (.pointer (some ⟨w.heap.size + 1, 0, none⟩)) ∧
    w'.heap[w.heap.size + 1]? = some (muxRow (.slice (some ⟨w.heap.size + 2, 0, none⟩) 6 6) (.slice (some ⟨w.heap.size + 3, 0, none⟩) 6 6) (.slice (some ⟨w.heap.size + 4, 0, none⟩) 6 6) (.chan (some w.heap.size))) ∧
    w'.heap[w.heap.size + 2]? = some (six lA) ∧ w'.heap[w.heap.size + 4]? = some (six lC) ∧ w'.heap.size = w.heap.size + 5 ∧ Below w.heap.size w w' := by
  go_enter Try.func13, Try.ntmps13
  go_wp2_with fail
  refine (new_at _).mono ?_
  rintro e w0 ⟨rfl, hm0, hs0, hb0⟩
  go_wp2_with fail
  refine (load_at (w.heap.size + 1) 0 0 rfl (by omega) 97 98 99 100 101 102 _ _ _ _ w0 hm0).mono ?_
  rintro e w1 ⟨rfl, hm1, hl1, hs1, hk1, ho1, ht1, hp1⟩
  rw [hs0] at hl1 hs1 hm1
  have hb1 : Below w.heap.size w w1 := hb0.trans ⟨ho1, ht1, hp1, by omega, fun k hk => hk1 k (by omega) (by omega)⟩
  replace hm1 : w1.heap[w.heap.size + 1]? = some (muxRow (.slice (some ⟨w.heap.size + 2, 0, none⟩) 6 6) (.slice none 0 0) (.slice none 0 0) (.chan (some w.heap.size))) := hm1
  replace hl1 : w1.heap[w.heap.size + 2]? = some (six lA) := hl1
  replace hs1 : w1.heap.size = w.heap.size + 3 := hs1
  clear hk1 ho1 ht1 hp1 hm0 hb0 hs0
  go_wp2_with fail
  refine (load_at (w.heap.size + 1) 1 1 rfl (by omega) 103 104 105 106 107 108 _ _ _ _ w1 hm1).mono ?_
  rintro e w2 ⟨rfl, hm2, hl2, hs2, hk2, ho2, ht2, hp2⟩
  rw [hs1] at hl2 hs2 hm2
  have hb2 : Below w.heap.size w w2 := hb1.trans ⟨ho2, ht2, hp2, by omega, fun k hk => hk2 k (by omega) (by omega)⟩
  replace hm2 : w2.heap[w.heap.size + 1]? = some (muxRow (.slice (some ⟨w.heap.size + 2, 0, none⟩) 6 6) (.slice (some ⟨w.heap.size + 3, 0, none⟩) 6 6) (.slice none 0 0) (.chan (some w.heap.size))) := hm2
  have hla2 : w2.heap[w.heap.size + 2]? = some (six lA) := (hk2 _ (by omega) (by omega)).trans hl1
  replace hs2 : w2.heap.size = w.heap.size + 4 := hs2
  clear hk2 ho2 ht2 hp2 hm1 hb1 hl1 hl2 hs1
  go_wp2_with fail
  refine (load_at (w.heap.size + 1) 2 2 rfl (by omega) 109 110 111 112 113 114 _ _ _ _ w2 hm2).mono ?_
  rintro e w3 ⟨rfl, hm3, hl3, hs3, hk3, ho3, ht3, hp3⟩
  rw [hs2] at hl3 hs3 hm3
  have hb3 : Below w.heap.size w w3 := hb2.trans ⟨ho3, ht3, hp3, by omega, fun k hk => hk3 k (by omega) (by omega)⟩
  have hla3 : w3.heap[w.heap.size + 2]? = some (six lA) := (hk3 _ (by omega) (by omega)).trans hla2
  have hfin : Hid (w3.heap[w.heap.size + 1]? = some (muxRow (.slice (some ⟨w.heap.size + 2, 0, none⟩) 6 6) (.slice (some ⟨w.heap.size + 3, 0, none⟩) 6 6) (.slice (some ⟨w.heap.size + 4, 0, none⟩) 6 6) (.chan (some w.heap.size))) ∧
    w3.heap[w.heap.size + 2]? = some (six lA) ∧ w3.heap[w.heap.size + 4]? = some (six lC) ∧ w3.heap.size = w.heap.size + 5 ∧ Below w.heap.size w w3) := ⟨hm3, hla3, hl3, hs3, hb3⟩
  clear hk3 ho3 ht3 hp3 hm2 hb2 hm3 hla3 hl3 hs3 hb3 hla2 hs2
  go_wp2
  go_ret
  exact ⟨rfl, hfin.out⟩

set_option maxHeartbeats 1000000 in
theorem both_walk (w : World) : Calls Try.prog 9 #[] w fun e w' => e = .returned (.bool true) ∧ Below w.heap.size w w' := by
  go_enter Try.func9, Try.ntmps9
  go_wp2_with fail
  refine (full_walk _).mono ?_
  rintro e w1 ⟨rfl, hm1, hl1, hc1, hs1, hb1⟩
  go_wp2_with fail
  refine (paired_at (w.heap.size + 1) 0 2 0 2 rfl rfl (by omega) (by omega) lA lC (some ⟨w.heap.size + 2, 0, none⟩) (some ⟨w.heap.size + 4, 0, none⟩) 6 6 w1 (by decide) (by decide) (bd_of _ (by decide)) (bd_of _ (by decide)) (by simp [World.cell?, hm1, muxRow]; rfl) (by simp [World.cell?, hm1, muxRow]; rfl) (slice_of _ _ _ hl1) (slice_of _ _ _ hc1)).mono ?_
  rintro e w2 ⟨o, hord, rfl, hb2⟩
  have hord' : Ord o 6 6 := hord
  have hno : ∀ c ∈ o, c.toNat ≠ 59 := fun c hc => by rcases hord'.2.2 c hc with e | e <;> (rw [e]; decide)
  have hb2' : Below w.heap.size w w2 := hb1.trans (hb2.mono (by omega))
  have hw2 : w.heap.size ≤ w2.heap.size := hb2'.size
  have HH : Hid (hexs lA = [54, 49, 54, 50, 54, 51, 54, 52, 54, 53, 54, 54] ∧ hexs lC = [54, 100, 54, 101, 54, 102, 55, 48, 55, 49, 55, 50]) := ⟨by decide +kernel, by decide +kernel⟩
  have hol : o.length = 12 := hord'.1
  have HL : Hid (o.length = 12) := hol
  have hcnt : Hid (o.count 48 = 6) := hord'.2.1
  have hn1 := hexs_no59 lA
  have hn2 := hexs_no59 lC
  have hlen : Hid ((hexs lA).length = 12 ∧ (hexs lC).length = 12) := ⟨by rw [hexs_len]; rfl, by rw [hexs_len]; rfl⟩
  have hov := hord'.2.2
  have HV : Hid ((lA.length : Int) + lC.length = 12 ∧ lA.sum + lC.sum = 1266) := ⟨rfl, rfl⟩
  rw [HV.out.1, HV.out.2]
  clear hb2 hb1 hm1 hl1 hc1 hs1 hord hord' HV
  generalize hexs lA = p at *
  generalize hexs lC = q at *
  have HP : Hid (∀ w, Calls Try.prog 20 #[.string ⟨(p ++ 59 :: (q ++ 59 :: o)).toArray⟩, .int .i64 2] w fun e w' => e = .returned (.string ⟨o.toArray⟩) ∧ w' = w) :=
    fun w => part_lists p q o (by have := hlen.out; simp; omega) hn1 hn2 hno w
  have HZ : Hid (∀ w, Calls Try.prog 27 #[.string ⟨o.toArray⟩] w fun e w' => e = .returned (.int .i64 6) ∧ w' = w) := fun w => by
    have := zeros_any o (by omega) hov w
    rw [hcnt.out] at this
    exact this
  have HS : Hid ((⟨(p ++ 59 :: (q ++ 59 :: o)).toArray⟩ : ByteArray) = ⟨#[54, 49, 54, 50, 54, 51, 54, 52, 54, 53, 54, 54, 59, 54, 100, 54, 101, 54, 102, 55, 48, 55, 49, 55, 50, 59]⟩ ++ ⟨o.toArray⟩) := by
    show _ = _
    have := str_append [54, 49, 54, 50, 54, 51, 54, 52, 54, 53, 54, 54, 59, 54, 100, 54, 101, 54, 102, 55, 48, 55, 49, 55, 50, 59] o
    rw [this, HH.out.1, HH.out.2]; rfl
  generalize (⟨(p ++ 59 :: (q ++ 59 :: o)).toArray⟩ : ByteArray) = sv at *
  clear hno hov hn1 hn2 hlen HH hcnt
  have hos : (⟨o.toArray⟩ : ByteArray).size = 12 := hol
  clear hol HL
  generalize (⟨o.toArray⟩ : ByteArray) = so at *
  go_wp2_with fail
  refine (HP.out _).mono ?_
  rintro e w3 ⟨rfl, rfl⟩
  go_wp2_with fail
  refine (HZ.out _).mono ?_
  rintro e w3 ⟨rfl, rfl⟩
  rw [HS.out]
  clear HP HZ HS
  go_wp2
  go_ret
  exact ⟨rfl, hb2'.alloc (by omega) _⟩
end Go.Proofs.Qxb6500585a
