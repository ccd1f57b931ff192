import Derived.Test.Qxb6500357aDo
import Derived.Test.Qxb6500357aMeets
namespace Go.Proofs.Qxb6500357a
open Go.RowKit Go.Tag
set_option linter.unusedVariables false
set_option linter.unusedSimpArgs false
set_option maxRecDepth 100000
attribute [local simp] str_size
attribute [local go_sem] str_size

/-- The value 'Below{X: x}'. -/
def belV (x : Nat) : Value := .agg #[.pointer (some ⟨x, 0, none⟩)]
section
variable (x : Nat) (F : Nat → Prop) (s : St) (B : Int) (u : Word) (w : World)
theorem low_any (h : Both w F x s) (hf : Fine s B) (hB : B < 1000000000000000000) : Calls Try.prog 25 #[belV x] w (StrPost w (ixShow s)) := by
  have HC : Hid (∀ w', Fr No w w' → Calls Try.prog 30 #[.pointer (some ⟨x, 0, none⟩)] w' fun e w'' => e = .returned (.string (str (ixShow s))) ∧ Fr No w' w'') := fun w' f => ixShow_any x F s B w' (h.frNo f) hf hB
  clear h hf hB
  unfold belV
  go_enter Try.func25, Try.ntmps25
  go_wp2_with (go_at_call 30; refine (HC.out _ ((Fr.refl _ _).alloc _)).mono ?_; rintro e w1 ⟨rfl, f1⟩)
  go_ret
  exact ⟨rfl, ((Fr.refl _ _).alloc _).trans f1⟩
theorem holdersB_any (h : Both w F x s) (hf : Fine s B) : Calls Try.prog 80 #[belV x, .string (str u)] w fun e w' => ∃ v, e = .returned v ∧ Sl w' v ((s.holders u).map (Value.int .i64)) ∧ Fr No w w' := by
  have HC : Hid (∀ w', Fr No w w' → Calls Try.prog 60 #[.pointer (some ⟨x, 0, none⟩), .string (str u)] w' fun e w'' => ∃ v, e = .returned v ∧ Sl w'' v ((s.holders u).map (Value.int .i64)) ∧ Fr No w' w'') := fun w' f =>
    (docs_any x F s B u w' (h.frNo f) hf).mono fun e w'' ⟨v, h1, h2, h3, _⟩ => ⟨v, h1, own_sl h2, h3⟩
  clear h hf
  unfold belV
  go_enter Try.func80, Try.ntmps80
  go_wp2_with (go_at_call 60; refine (HC.out _ ((Fr.refl _ _).alloc _)).mono ?_; rintro e w1 ⟨v, rfl, hv, f1⟩)
  go_ret
  exact ⟨v, rfl, hv, ((Fr.refl _ _).alloc _).trans f1⟩
theorem known_all (h : Both w F x s) (hf : Fine s B) : Calls Try.prog 83 #[belV x] w fun e w' => ∃ v, e = .returned v ∧ Sl w' v (s.words.map fun s => Value.string (str s)) ∧ Fr No w w' := by
  have HC : Hid (∀ w', Fr No w w' → Calls Try.prog 47 #[.pointer (some ⟨x, 0, none⟩)] w' fun e w'' => ∃ v, e = .returned v ∧ Sl w'' v (s.words.map fun s => Value.string (str s)) ∧ Fr No w' w'') := fun w' f =>
    (words_any x F s B w' (h.frNo f) hf).mono fun e w'' ⟨v, h1, h2, h3, _⟩ => ⟨v, h1, own_sl h2, h3⟩
  clear h hf
  unfold belV
  go_enter Try.func83, Try.ntmps83
  go_wp2_with (go_at_call 47; refine (HC.out _ ((Fr.refl _ _).alloc _)).mono ?_; rintro e w1 ⟨v, rfl, hv, f1⟩)
  go_ret
  exact ⟨v, rfl, hv, ((Fr.refl _ _).alloc _).trans f1⟩
theorem among_any (v : Value) (L : List Word) (hv : Sl w v (L.map fun s => Value.string (str s))) (hl : L.length ≤ 1000) : Calls Try.prog 84 #[v, .string (str u)] w fun e w' => e = .returned (.bool (decide (u ∈ L))) ∧ w' = w := by
  obtain ⟨ao, cap, rfl, hcl⟩ := hv
  obtain ⟨n, hn⟩ : ∃ n, L.length = n := ⟨_, rfl⟩
  have HN : Hid (L.length = n) := hn
  rw [List.length_map, hn]
  rw [hn] at hl
  clear hn
  go_enter Try.func84, Try.ntmps84
  go_wp2
  go_loop [5] (fun i => ∃ j : Nat, j ≤ n ∧ i = .int .i64 j ∧ Hid (u ∉ L.take j)) (fun i => n - (intOf i).toNat)
  case atStart => exact ⟨0, Nat.zero_le _, rfl, by simp [Hid]⟩
  case round =>
    obtain ⟨j, hj, rfl, hno⟩ := hrel
    by_cases hlt : j < n
    · have hjl : j < L.length := by rw [HN.out]; exact hlt
      obtain ⟨g, off, rfl, hc0⟩ := hcl j (.string (str L[j])) (by simp [hjl])
      have HT : Hid (L.take (j + 1) = L.take j ++ [L[j]]) := take_snoc L j hjl
      have HM : Hid (L[j] ∈ L) := List.getElem_mem hjl
      clear hcl
      generalize L[j] = x at *
      clear hjl
      by_cases he : x = u
      · have hb : ((str x).toList == (str u).toList) = true := by rw [str_toList, str_toList]; simpa using he
        have HE : Hid (decide (u ∈ L) = true) := by have := HM.out; rw [he] at this; rw [Hid]; simpa using this
        clear he
        go_wp2
        go_ret
        exact ⟨by rw [HE.out]; rfl, rfl⟩
      · have hb : ((str x).toList == (str u).toList) = false := by rw [str_toList, str_toList]; simpa using he
        have HK : Hid (u ∉ L.take (j + 1)) := by
          rw [Hid, HT.out]
          simp only [List.mem_append, List.mem_singleton, not_or]
          exact ⟨hno.out, fun e => he e.symm⟩
        clear he
        go_wp2
        go_round
        case rel => exact ⟨j + 1, by omega, by go_num, HK⟩
        case measure => simp [intOf]; omega
    · have HE : Hid (decide (u ∈ L) = false) := by
        have := hno.out
        rw [List.take_of_length_le (by rw [HN.out]; omega)] at this
        rw [Hid]; simpa using this
      clear hcl
      go_wp2
      go_ret
      exact ⟨by rw [HE.out]; rfl, rfl⟩
theorem groupAt_any (id : Int) (h : Both w F x s) (hf : Fine s B) (hid : 1 ≤ id ∧ id ≤ 9) : Calls Try.prog 82 #[belV x, .int .i64 id] w fun e w' => e = .returned (.int .i64 (s.groupOf id)) ∧ Fr No w w' := by
  have HC : Hid (∀ w', Fr No w w' → Calls Try.prog 70 #[.pointer (some ⟨x, 0, none⟩), .int .i64 id] w' fun e w'' => e = .returned (.tuple #[.int .i64 (s.groupOf id), .int .i64 (s.getErr id)]) ∧ Fr No w' w'') := fun w' f => group_any x F s B w' id (h.frNo f) hf
  clear h hf
  unfold belV
  go_enter Try.func82, Try.ntmps82
  go_wp2_with (go_at_call 70; refine (HC.out _ ((Fr.refl _ _).alloc _)).mono ?_; rintro e w1 ⟨rfl, f1⟩)
  go_ret
  exact ⟨rfl, ((Fr.refl _ _).alloc _).trans f1⟩
end
section
variable (y x : Nat) (F : Nat → Prop) (s : St) (B : Int) (u : Word) (w : World)
theorem all_any (h : QAt w F y x s) (hf : Fine s B) (hu : u.length ≤ 12) : Calls Try.prog 79 #[.pointer (some ⟨y, 0, none⟩), .string (str u)] w fun e w' => ∃ v, e = .returned v ∧ Sl w' v ((s.holders u).map (Value.int .i64)) ∧ Fr No w w' := by
  have HC : Hid (Calls Try.prog 34 #[.pointer (some ⟨y, 0, none⟩), .int .i64 2, .string (str u), .string (str u)] w fun e w'' => ∃ v, e = .returned (.tuple #[v, .int .i64 (findErr 2 u u)]) ∧ Sl w'' v ((s.holders u).map (Value.int .i64)) ∧ Fr No w w'') := by
    refine (find_any y x F s B 2 u u w h hf).mono ?_
    rintro e w'' ⟨v, rfl, ho, f', -⟩
    rw [find_or s u hu] at ho
    exact ⟨v, rfl, own_sl ho, f'⟩
  clear h hf
  go_enter Try.func79, Try.ntmps79
  go_wp2_with (go_at_call 34; refine HC.out.mono ?_; rintro e w1 ⟨v, rfl, hv, f1⟩)
  go_ret
  exact ⟨v, rfl, hv, f1⟩
theorem tied_any (h : QAt w F y x s) (hf : Fine s B) (hu : u.length ≤ 12) : Calls Try.prog 55 #[belV x, .pointer (some ⟨y, 0, none⟩), .string (str u)] w fun e w' => e = .returned (.bool true) ∧ Fr No w w' := by
  have HQ : Hid (∀ w', Fr No w w' → QAt w' F y x s) := fun w' f => ⟨f.heap h.1 (fun h => h), h.2.frNo f⟩
  have HA : Hid (∀ w', Fr No w w' → Calls Try.prog 79 #[.pointer (some ⟨y, 0, none⟩), .string (str u)] w' fun e w'' => ∃ v, e = .returned v ∧ Sl w'' v ((s.holders u).map (Value.int .i64)) ∧ Fr No w' w'') := fun w' f => all_any y x F s B u w' (HQ.out w' f) hf hu
  have HH : Hid (∀ w', Fr No w w' → Calls Try.prog 80 #[.agg #[.pointer (some ⟨x, 0, none⟩)], .string (str u)] w' fun e w'' => ∃ v, e = .returned v ∧ Sl w'' v ((s.holders u).map (Value.int .i64)) ∧ Fr No w' w'') := fun w' f => holdersB_any x F s B u w' (HQ.out w' f).2 hf
  have l3 : (s.holders u).length ≤ 9 := List.length_filter_le _ idsAll
  have HI1 : Hid (∀ w' v', Sl w' v' ((s.holders u).map (Value.int .i64)) → Calls Try.prog 46 #[v'] w' fun e w'' => e = .returned (.string (str (ints (s.holders u)))) ∧ Fr No w' w'') := fun w' v' hs => ints_any v' (s.holders u) w' hs (holders_num s u) (by omega)
  have hb0 : ∀ o : Obj, (w.alloc o).heap[w.heap.size]? = some o := fun o => heap_alloc_new w o
  clear h hf
  unfold belV
  go_enter Try.func55, Try.ntmps55
  go_wp2_with first
    | (go_at_call 79; refine (HA.out _ ((Fr.refl _ _).alloc _)).mono ?_; rintro e w1 ⟨v1, rfl, hv1, f1⟩
       have FB : Fr No (w.alloc (.cells #[.pointer (some ⟨x, 0, none⟩)] 59)) w1 := f1
       have F1 : Fr No w w1 := ((Fr.refl _ _).alloc _).trans f1)
    | (go_at_call 80; refine (HH.out w2 (F1.trans f2)).mono ?_; rintro e w3 ⟨v2, rfl, hv2, f3⟩)
    | (go_at_call 46
       first
         | (refine (HI1.out w3 v2 hv2).mono ?_
            rintro e w4 ⟨rfl, f4⟩)
         | (refine (HI1.out w1 v1 hv1).mono ?_
            rintro e w2 ⟨rfl, f2⟩
            have cb := (FB.trans f2).cell (b := w.heap.size) (o := 0) (v := .pointer (some ⟨x, 0, none⟩)) (by rw [cell_of_heap (hb0 _)]; rfl) (fun h => h)
            have cbl : w.heap.size < w2.heap.size := Nat.lt_of_lt_of_le (by simp) (FB.trans f2).size))
  go_ret
  exact ⟨by simp, F1.trans (f2.trans (f3.trans f4))⟩
end
end Go.Proofs.Qxb6500357a
