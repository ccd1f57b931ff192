import Derived.Test.Qxb6500357aDue
import Derived.Test.Qxb6500357aSplitW
import Derived.Test.Qxb6500357aGroupSum
import Derived.Test.Qxb6500357aTopOrder
import Derived.Test.Qxb6500357aFindsI
import Derived.Deep.CutRange
import Derived.Deep.CutBlock
import Derived.Deep.RegionHeld3
namespace Go.Tag
open Go.Proofs.Qxb6500357a
set_option linter.unusedVariables false
set_option linter.unusedSimpArgs false
theorem len_split {α : Type} (p : α → Bool) : ∀ l : List α, l.length = (l.filter p).length + (l.filter fun x => !p x).length
  | [] => rfl
  | a :: l => by
    have := len_split p l
    cases h : p a <;> simp [List.filter_cons, h] <;> omega
theorem drop_ids (s : St) (g : Int) : (s.drop g).ids.length + s.cnt g = s.ids.length := by
  have e : (s.drop g).ids = s.ids.filter fun i => !decide (s.groupOf i = g) := by
    unfold St.ids
    rw [List.filter_filter]
    refine List.filter_congr fun i _ => ?_
    rw [drop_docs]
    by_cases h : s.groupOf i = g <;> simp [h]
  have := len_split (fun i => decide (s.groupOf i = g)) s.ids
  rw [e]; unfold St.cnt; omega
theorem del_ids {s : St} {B : Int} (h : Fine s B) {id : Int} {d : Doc} (hd : s.docs id = some d) : (s.del id).ids.length + 1 = s.ids.length := by
  have := size_upd (s := s.del id) (t := s) (h.dom id d hd).1 (fun i hi => del_other s hi)
  rw [hd, del_docs] at this
  simpa using this
theorem reset_ids (s : St) : s.reset.ids.length = 0 := by
  have : s.reset.ids = [] := by unfold St.ids St.reset; simp
  rw [this]; rfl
end Go.Tag
namespace Go.Proofs.Qxb6500357a
open Go.RowKit Go.Tag
set_option linter.unusedVariables false
set_option linter.unusedSimpArgs false
set_option maxRecDepth 100000
attribute [local simp] str_size
attribute [local go_sem] str_size

/-- How many may have gone. -/
structure Gone (s : St) (o : Op) : Prop where
  drop : o.k = 3 → ((doS s o).ids.length : Int) + (doA s o).n = s.ids.length
  reset : o.k = 10 → (doS s o).ids.length = 0 ∧ (doA s o).n = s.ids.length
  del : o.k = 2 → (doA s o).e = 0 → (doS s o).ids.length + 1 = s.ids.length
  put : o.k = 1 → (doA s o).e = 0 → s.ids.length ≤ (doS s o).ids.length ∧ (doS s o).ids.length ≤ s.ids.length + 1
  bad : (o.k = 1 ∨ o.k = 2) → (doA s o).e ≠ 0 → (doS s o).ids.length = s.ids.length
  other : ¬ (o.k = 1 ∨ o.k = 2 ∨ o.k = 3 ∨ o.k = 10) → (doS s o).ids.length = s.ids.length
theorem gone_of {s : St} {B : Int} (hf : Fine s B) (o : Op) : Gone s o := by
  obtain ⟨k, A, Bb, C, S, T⟩ := o
  refine ⟨?_, ?_, ?_, ?_, ?_, ?_⟩
  · rintro h
    simp only at h
    subst h
    have := drop_ids s A
    show (((s.drop A).ids.length : Int) + (s.cnt A : Int)) = _
    omega
  · rintro h
    simp only at h
    subst h
    exact ⟨reset_ids s, rfl⟩
  · rintro h he
    simp only at h
    subst h
    have he : s.getErr A = 0 := he
    show (s.delR A).ids.length + 1 = _
    cases hd : s.docs A with
    | none =>
      exfalso
      unfold St.getErr at he
      rw [hd] at he
      split at he <;> simp at he
    | some d => rw [delR_some hd]; exact del_ids hf hd
  · rintro h he
    simp only at h
    subst h
    have he : s.putErr A Bb S = 0 := he
    have hA : 1 ≤ A ∧ A ≤ 9 := by
      unfold St.putErr at he
      by_cases h1 : 12 < S.length
      · rw [if_pos h1] at he; cases he
      rw [if_neg h1] at he
      by_cases h2 : ¬ (1 ≤ A ∧ A ≤ 9)
      · rw [if_pos h2] at he; cases he
      omega
    have e : doS s ⟨1, A, Bb, C, S, T⟩ = s.put A ⟨Bb, S⟩ := by
      show s.putR A Bb S = _
      unfold St.putR; rw [if_pos he]
    rw [e, put_idsLen hA]
    split <;> omega
  · rintro h he
    rw [doS_bad hf _ he]
  · rintro h
    rw [doS_keep s _ h]

set_option maxHeartbeats 4000000 in
theorem kept_any (y x : Nat) (F : Nat → Prop) (s : St) (B : Int) (o : Op) (w : World) (h : QAt w F y x (doS s o)) (hf0 : Fine s B) (hf : Fine (doS s o) (B + 1)) :
    Calls Try.prog 26 #[belV x, .pointer (some ⟨y, 0, none⟩), o.v, (doA s o).v, .int .i64 (s.ids.length : Int)] w fun e w' => e = .returned (.bool true) ∧ Fr No w w' := by
  have HQ : Hid (∀ w', Fr No w w' → QAt w' F y x (doS s o)) := fun w' f => ⟨f.heap h.1 (fun h => h), h.2.frNo f⟩
  have HL : Hid (∀ w', Fr No w w' → Calls Try.prog 15 #[.pointer (some ⟨y, 0, none⟩)] w' fun e w'' => e = .returned (.int .i64 ((doS s o).ids.length : Int)) ∧ w'' = w') := fun w' f => qLen_any y x F (doS s o) (B + 1) w' (HQ.out w' f) hf
  have HD : Hid (∀ w', 4 ≤ o.k ∧ o.k ≤ 6 → Calls Try.prog 54 #[.agg #[.int .i64 o.k, .int .i64 o.a, .int .i64 o.b, .int .i64 o.c, .string (str o.s), .string (str o.t)]] w' fun e w'' => e = .returned (.int .i64 (doA s o).e) ∧ Fr No w' w'') := fun w' hk => due_any s o w' hk
  have HT1 : Hid (∀ w' u, Fr No w w' → u.length ≤ 12 → Calls Try.prog 55 #[.agg #[.pointer (some ⟨x, 0, none⟩)], .pointer (some ⟨y, 0, none⟩), .string (str u)] w' fun e w'' => e = .returned (.bool true) ∧ Fr No w' w'') := fun w' u f hu => tied_any y x F (doS s o) (B + 1) u w' (HQ.out w' f) hf hu
  have HSP : Hid (∀ w' u v, Fr No w w' → u.length ≤ 12 → v.length ≤ 12 → Calls Try.prog 56 #[.pointer (some ⟨y, 0, none⟩), .string (str u), .string (str v)] w' fun e w'' => e = .returned (.bool true) ∧ Fr No w' w'') := fun w' u v f hu hv => splitW_any y x F (doS s o) (B + 1) u v w' (HQ.out w' f) hf hu hv
  have HGS : Hid (∀ w' u, Fr No w w' → u.length ≤ 12 → Calls Try.prog 57 #[.agg #[.pointer (some ⟨x, 0, none⟩)], .pointer (some ⟨y, 0, none⟩), .string (str u)] w' fun e w'' => e = .returned (.bool true) ∧ Fr No w' w'') := fun w' u f hu => groupSum_any y x F (doS s o) (B + 1) u w' (HQ.out w' f) hf hu
  have HTO : Hid (∀ w' k, Fr No w w' → Calls Try.prog 58 #[.agg #[.pointer (some ⟨x, 0, none⟩)], .pointer (some ⟨y, 0, none⟩), .int .i64 k] w' fun e w'' => e = .returned (.bool true) ∧ Fr No w' w'') := fun w' k f => topOrder_any y x F (doS s o) (B + 1) k w' (HQ.out w' f) hf
  have HG := gone_of hf0 o
  have hn6 := hf.size
  have hs6 := hf0.size
  clear h hf hf0 HQ
  obtain ⟨ok, oa, ob, oc, oS, oT⟩ := o
  obtain ⟨g1, g2, g3, g4, g5, g6⟩ := HG
  unfold Op.v Ans.v opV ansV belV
  simp only [] at g1 g2 g3 g4 g5 g6 HD ⊢
  generalize doA s ⟨ok, oa, ob, oc, oS, oT⟩ = an at *
  generalize doS s ⟨ok, oa, ob, oc, oS, oT⟩ = s' at *
  obtain ⟨n, hn⟩ : ∃ n, s'.ids.length = n := ⟨_, rfl⟩
  obtain ⟨m, hm⟩ : ∃ m, s.ids.length = m := ⟨_, rfl⟩
  rw [hn] at HL g1 g2 g3 g4 g5 g6 hn6
  rw [hm] at g1 g2 g3 g4 g5 g6 hs6
  rw [hm]
  clear hn hm
  -- the bounds, plainly
  have HB : Hid (∃ lo hi : Int, lo ≤ (m : Int) - n ∧ (m : Int) - n ≤ hi ∧ ((ok = 3 ∨ ok = 10) → lo = an.n ∧ hi = an.n) ∧ (¬ (ok = 3 ∨ ok = 10) → ok = 2 ∧ an.e = 0 → lo = 1 ∧ hi = 1) ∧ (¬ (ok = 3 ∨ ok = 10) → ¬ (ok = 2 ∧ an.e = 0) → ok = 1 ∧ an.e = 0 → lo = -1 ∧ hi = 0) ∧ (¬ (ok = 3 ∨ ok = 10) → ¬ (ok = 2 ∧ an.e = 0) → ¬ (ok = 1 ∧ an.e = 0) → lo = 0 ∧ hi = 0)) := by
    by_cases h3 : ok = 3
    · have := g1 h3
      exact ⟨an.n, an.n, by omega, by omega, fun _ => ⟨rfl, rfl⟩, fun h => absurd (.inl h3) h, fun h => absurd (.inl h3) h, fun h => absurd (.inl h3) h⟩
    by_cases h10 : ok = 10
    · have := g2 h10
      exact ⟨an.n, an.n, by omega, by omega, fun _ => ⟨rfl, rfl⟩, fun h => absurd (.inr h10) h, fun h => absurd (.inr h10) h, fun h => absurd (.inr h10) h⟩
    by_cases h2 : ok = 2 ∧ an.e = 0
    · have := g3 h2.1 h2.2
      exact ⟨1, 1, by omega, by omega, fun h => absurd h (by omega), fun _ _ => ⟨rfl, rfl⟩, fun _ h => absurd h2 h, fun _ h => absurd h2 h⟩
    by_cases h1 : ok = 1 ∧ an.e = 0
    · have := g4 h1.1 h1.2
      exact ⟨-1, 0, by omega, by omega, fun h => absurd h (by omega), fun _ h => absurd h h2, fun _ _ _ => ⟨rfl, rfl⟩, fun _ _ h => absurd h1 h⟩
    · have : n = m := by
        by_cases hb : ok = 1 ∨ ok = 2
        · refine g5 hb (fun e => ?_)
          rcases hb with hb | hb
          · exact h1 ⟨hb, e⟩
          · exact h2 ⟨hb, e⟩
        · exact g6 (by omega)
      exact ⟨0, 0, by omega, by omega, fun h => absurd h (by omega), fun _ h => absurd h h2, fun _ _ h => absurd h h1, fun _ _ _ => ⟨rfl, rfl⟩⟩
  have H10 : Hid (ok = 10 → n = 0) := fun h => (g2 h).1
  clear g1 g2 g3 g4 g5 g6
  have hbx : ∀ o : Obj, (w.alloc o).heap[w.heap.size]? = some o := fun o => heap_alloc_new w o
  have HO : Hid (∀ W, Fr No (((w.alloc (.cells #[.pointer (some ⟨x, 0, none⟩)] 59)).alloc (.cells #[.int .i64 ok, .int .i64 oa, .int .i64 ob, .int .i64 oc, .string (str oS), .string (str oT)] 39)).alloc (.cells #[.int .i64 an.e, .int .i64 an.n, .int .i64 0, .string (str an.s)] 36)) W → W.heap[w.heap.size]? = some (.cells #[.pointer (some ⟨x, 0, none⟩)] 59) ∧ W.heap[w.heap.size + 1]? = some (.cells #[.int .i64 ok, .int .i64 oa, .int .i64 ob, .int .i64 oc, .string (str oS), .string (str oT)] 39) ∧ W.heap[w.heap.size + 1 + 1]? = some (.cells #[.int .i64 an.e, .int .i64 an.n, .int .i64 0, .string (str an.s)] 36) ∧ Fr No w W) := fun W f => by
    refine ⟨f.heap ?_ (fun h => h), f.heap ?_ (fun h => h), f.heap ?_ (fun h => h), (((Fr.refl No w).alloc _).alloc _).alloc _ |>.trans f⟩
    · rw [Below.heap_alloc _ _ _ (by simp only [World.size_alloc]; omega), Below.heap_alloc _ _ _ (by simp)]; exact heap_alloc_new _ _
    · rw [Below.heap_alloc _ _ _ (by simp)]
      have := heap_alloc_new (w.alloc (.cells #[.pointer (some ⟨x, 0, none⟩)] 59)) (.cells #[.int .i64 ok, .int .i64 oa, .int .i64 ob, .int .i64 oc, .string (str oS), .string (str oT)] 39)
      simp only [World.size_alloc] at this; exact this
    · have := heap_alloc_new ((w.alloc (.cells #[.pointer (some ⟨x, 0, none⟩)] 59)).alloc (.cells #[.int .i64 ok, .int .i64 oa, .int .i64 ob, .int .i64 oc, .string (str oS), .string (str oT)] 39)) (.cells #[.int .i64 an.e, .int .i64 an.n, .int .i64 0, .string (str an.s)] 36)
      simp only [World.size_alloc] at this; exact this
  have HW0 : Hid (Fr No w (((w.alloc (.cells #[.pointer (some ⟨x, 0, none⟩)] 59)).alloc (.cells #[.int .i64 ok, .int .i64 oa, .int .i64 ob, .int .i64 oc, .string (str oS), .string (str oT)] 39)).alloc (.cells #[.int .i64 an.e, .int .i64 an.n, .int .i64 0, .string (str an.s)] 36))) := (((Fr.refl No w).alloc _).alloc _).alloc _
  have hwg : IntKind.i64.wrap ((m : Int) - (n : Int)) = (m : Int) - (n : Int) := wrap_i64 _ (by omega) (by omega)
  go_enter Try.func26, Try.ntmps26
  go_upto_block 0 with (go_at_call 15; refine (HL.out _ HW0.out).mono ?_; rintro e w1 ⟨rfl, hw1⟩
                        have F1 : Fr No (((w.alloc (.cells #[.pointer (some ⟨x, 0, none⟩)] 59)).alloc (.cells #[.int .i64 ok, .int .i64 oa, .int .i64 ob, .int .i64 oc, .string (str oS), .string (str oT)] 39)).alloc (.cells #[.int .i64 an.e, .int .i64 an.n, .int .i64 0, .string (str an.s)] 36)) w1 := by rw [hw1]; exact Fr.refl _ _
                        clear hw1)
  have HF1 : Hid (∀ W, Fr No w1 W → Fr No (((w.alloc (.cells #[.pointer (some ⟨x, 0, none⟩)] 59)).alloc (.cells #[.int .i64 ok, .int .i64 oa, .int .i64 ob, .int .i64 oc, .string (str oS), .string (str oT)] 39)).alloc (.cells #[.int .i64 an.e, .int .i64 an.n, .int .i64 0, .string (str an.s)] 36)) W) := fun W f => F1.trans f
  obtain ⟨hb5, hb7, hb8, -⟩ := HO.out w1 F1
  obtain ⟨b5, e5⟩ : ∃ b5, w.heap.size = b5 := ⟨_, rfl⟩
  obtain ⟨b7, e7⟩ : ∃ b7, w.heap.size + 1 = b7 := ⟨_, rfl⟩
  obtain ⟨b8, e8⟩ : ∃ b8, w.heap.size + 1 + 1 = b8 := ⟨_, rfl⟩
  rw [e8] at hb8
  rw [e7] at hb7
  rw [e5] at hb5
  have HOb : Hid (∀ W, Fr No w1 W → Fr No w W) := fun W f => (HO.out W (HF1.out W f)).2.2.2
  clear F1 HW0 HL HO hbx
  rw [e8, e7, e5]
  clear e8 e7 e5 HF1
  have a0 := cell_of_heap hb8 0
  have a1 := cell_of_heap hb8 1
  simp only [List.getElem?_toArray, List.getElem?_cons_zero, List.getElem?_cons_succ] at a0 a1
  have o0 := cell_of_heap hb7 0
  have o1 := cell_of_heap hb7 1
  have o2 := cell_of_heap hb7 2
  have o3 := cell_of_heap hb7 3
  have o4 := cell_of_heap hb7 4
  have o5 := cell_of_heap hb7 5
  simp only [List.getElem?_toArray, List.getElem?_cons_zero, List.getElem?_cons_succ] at o0 o1 o2 o3 o4 o5
  have p0 := cell_of_heap hb5 0
  simp only [List.getElem?_toArray, List.getElem?_cons_zero, List.getElem?_cons_succ] at p0
  clear hb5 hb7 hb8
  go_cut [13, 14] from 20 to 50 (fun a b wx => ∃ lo hi : Int, a = .int .i64 lo ∧ b = .int .i64 hi ∧ lo ≤ (m : Int) - n ∧ (m : Int) - n ≤ hi ∧ Fr No w1 wx)
  case first =>
    obtain ⟨lo, hi, h1, h2, h3, h4, h5, h6⟩ := HB.out
    have HLH : Hid (lo ≤ (m : Int) - n ∧ (m : Int) - n ≤ hi) := ⟨h1, h2⟩
    clear h1 h2 HB
    by_cases e3 : ok = 3
    · have q3 : (ok == 3) = true := by simp [e3]
      have HH : Hid (lo = an.n ∧ hi = an.n) := h3 (.inl e3)
      clear h3 h4 h5 h6 e3
      go_wp2
      go_quiet (fail)
      go_wp2
      go_meet
      case rel => exact ⟨an.n, an.n, rfl, rfl, by rw [← HH.out.1]; exact HLH.out.1, by rw [← HH.out.2]; exact HLH.out.2, (Fr.refl _ _).drewN _⟩
    have q3 : (ok == 3) = false := by simp [e3]
    by_cases e10 : ok = 10
    · have q10 : (ok == 10) = true := by simp [e10]
      have HH : Hid (lo = an.n ∧ hi = an.n) := h3 (.inr e10)
      clear h3 h4 h5 h6 e3 e10
      go_wp2
      go_quiet (fail)
      go_wp2
      go_meet
      case rel => exact ⟨an.n, an.n, rfl, rfl, by rw [← HH.out.1]; exact HLH.out.1, by rw [← HH.out.2]; exact HLH.out.2, (Fr.refl _ _).drewN _⟩
    have q10 : (ok == 10) = false := by simp [e10]
    have h4 := h4 (by omega)
    have h5 := h5 (by omega)
    have h6 := h6 (by omega)
    by_cases ee : an.e = 0
    · have qe : (an.e == 0) = true := by simp [ee]
      by_cases e2 : ok = 2
      · have q2 : (ok == 2) = true := by simp [e2]
        have HH : Hid (lo = 1 ∧ hi = 1) := h4 ⟨e2, ee⟩
        clear h3 h4 h5 h6 e3 e10 e2 ee
        go_wp2
        go_meet
        case rel => exact ⟨1, 1, rfl, rfl, by rw [← HH.out.1]; exact HLH.out.1, by rw [← HH.out.2]; exact HLH.out.2, Fr.refl _ _⟩
      have q2 : (ok == 2) = false := by simp [e2]
      have h5 := h5 (fun h => e2 h.1)
      have h6 := h6 (fun h => e2 h.1)
      by_cases e1 : ok = 1
      · have q1 : (ok == 1) = true := by simp [e1]
        have HH : Hid (lo = -1 ∧ hi = 0) := h5 ⟨e1, ee⟩
        clear h3 h4 h5 h6 e3 e10 e2 ee e1
        go_wp2
        go_meet
        case rel => exact ⟨-1, 0, rfl, rfl, by rw [← HH.out.1]; exact HLH.out.1, by rw [← HH.out.2]; exact HLH.out.2, Fr.refl _ _⟩
      · have q1 : (ok == 1) = false := by simp [e1]
        have HH : Hid (lo = 0 ∧ hi = 0) := h6 (fun h => e1 h.1)
        clear h3 h4 h5 h6 e3 e10 e2 ee e1
        go_wp2
        go_meet
        case rel => exact ⟨0, 0, rfl, rfl, by rw [← HH.out.1]; exact HLH.out.1, by rw [← HH.out.2]; exact HLH.out.2, Fr.refl _ _⟩
    · have qe : (an.e == 0) = false := by simp [ee]
      have HH : Hid (lo = 0 ∧ hi = 0) := h6 (fun h => ee h.2) (fun h => ee h.2)
      clear h3 h4 h5 h6 e3 e10 ee
      by_cases e2 : ok = 2
      · have q2 : (ok == 2) = true := by simp [e2]
        have q1 : (ok == 1) = false := by simp [e2]
        clear e2
        go_wp2
        go_meet
        case rel => exact ⟨0, 0, rfl, rfl, by rw [← HH.out.1]; exact HLH.out.1, by rw [← HH.out.2]; exact HLH.out.2, Fr.refl _ _⟩
      have q2 : (ok == 2) = false := by simp [e2]
      by_cases e1 : ok = 1
      · have q1 : (ok == 1) = true := by simp [e1]
        clear e1 e2
        go_wp2
        go_meet
        case rel => exact ⟨0, 0, rfl, rfl, by rw [← HH.out.1]; exact HLH.out.1, by rw [← HH.out.2]; exact HLH.out.2, Fr.refl _ _⟩
      · have q1 : (ok == 1) = false := by simp [e1]
        clear e1 e2
        go_wp2
        go_meet
        case rel => exact ⟨0, 0, rfl, rfl, by rw [← HH.out.1]; exact HLH.out.1, by rw [← HH.out.2]; exact HLH.out.2, Fr.refl _ _⟩
  case rest =>
    obtain ⟨lo, hi, rfl, rfl, hlo, hhi, FC⟩ := hcut
    clear HB
    have a0 := FC.cell a0 (fun h => h)
    have o0 := FC.cell o0 (fun h => h)
    have o1 := FC.cell o1 (fun h => h)
    have o2 := FC.cell o2 (fun h => h)
    have o3 := FC.cell o3 (fun h => h)
    have o4 := FC.cell o4 (fun h => h)
    have o5 := FC.cell o5 (fun h => h)
    have p0 := FC.cell p0 (fun h => h)
    have HOc : Hid (∀ W, Fr No wc W → Fr No w W) := fun W f => HOb.out W (FC.trans f)
    clear FC HOb
    have t1 : decide ((m : Int) - (n : Int) < lo) = false := by simp; omega
    have t2 : decide (hi < (m : Int) - (n : Int)) = false := by simp; omega
    have t3 : decide ((6 : Int) < (n : Int)) = false := by simp; omega
    have t4 : decide (6 < n) = false := by simp; omega
    go_upto_region 10 with fail
    go_cut [71] from 51 to 70 (fun v wx => v = .bool false ∧ wx = wc)
    case first =>
      by_cases e10 : ok = 10
      · have q10 : (ok == 10) = true := by simp [e10]
        have t5 : ((n : Int) == 0) = true := by have := H10.out e10; simp [this]
        have t6 : (n == 0) = true := by have := H10.out e10; simp [this]
        have HN0 : Hid (((n : Int) != 0) = false) := by rw [Hid]; have := H10.out e10; simp [this]
        clear e10
        go_wp2
        go_meet
        case rel => exact ⟨by rw [HN0.out], rfl⟩
      · have q10 : (ok == 10) = false := by simp [e10]
        clear e10
        go_wp2
        go_meet
        case rel => exact ⟨rfl, rfl⟩
    case rest =>
      obtain ⟨rfl, hwc⟩ := hcut
      have hwc := hwc.symm
      subst hwc
      clear hlo hhi t1 t2 t3 t4 hwg
      go_upto_region 12 with fail
      go_cut [86] from 72 to 85 (fun v wx => v = .bool false ∧ Fr No wc wx)
      case first =>
        by_cases h46 : 4 ≤ ok ∧ ok ≤ 6
        · have t1 : decide ((4 : Int) ≤ ok) = true := by simpa using h46.1
          have t2 : decide (ok ≤ (6 : Int)) = true := by simpa using h46.2
          have t3 := h46.1
          have t4 := h46.2
          have HD2 : Hid (∀ w', Calls Try.prog 54 #[.agg #[.int .i64 ok, .int .i64 oa, .int .i64 ob, .int .i64 oc, .string (str oS), .string (str oT)]] w' fun e w'' => e = .returned (.int .i64 an.e) ∧ Fr No w' w'') := fun w' => HD.out w' h46
          have tee : (an.e == an.e) = true := by simp
          clear h46
          go_region_held3 (fun w' => w'.cell? ⟨b8, 0, none⟩ = some (.int .i64 an.e) ∧ w'.cell? ⟨b7, 0, none⟩ = some (.int .i64 ok) ∧ w'.cell? ⟨b7, 1, none⟩ = some (.int .i64 oa) ∧ w'.cell? ⟨b7, 2, none⟩ = some (.int .i64 ob) ∧ w'.cell? ⟨b7, 3, none⟩ = some (.int .i64 oc) ∧ w'.cell? ⟨b7, 4, none⟩ = some (.string (str oS)) ∧ w'.cell? ⟨b7, 5, none⟩ = some (.string (str oT))) (go_keep)
            (first
              | (go_at_call 54
                 refine (HD2.out _).mono ?_
                 rintro e w4 ⟨rfl, f4⟩
                 have F4 : Hid (Fr No wc w4) := (Fr.refl No wc).drew.trans f4
                 have a0 := F4.out.cell a0 (fun h => h)
                 have o0 := F4.out.cell o0 (fun h => h)
                 have o1 := F4.out.cell o1 (fun h => h)
                 have o2 := F4.out.cell o2 (fun h => h)
                 have o3 := F4.out.cell o3 (fun h => h)
                 have o4 := F4.out.cell o4 (fun h => h)
                 have o5 := F4.out.cell o5 (fun h => h)
                 have p0 := F4.out.cell p0 (fun h => h)
                 clear f4))
          all_goals
            go_wp2
            go_meet
            case rel => exact ⟨rfl, F4.out⟩
        · have hN : (decide ((4 : Int) ≤ ok) = false ∧ ¬ (4 : Int) ≤ ok) ∨ (decide ((4 : Int) ≤ ok) = true ∧ (4 : Int) ≤ ok ∧ decide (ok ≤ (6 : Int)) = false ∧ ¬ ok ≤ (6 : Int)) := by
            by_cases h : 4 ≤ ok
            · right; exact ⟨by simpa using h, h, by simp; omega, by omega⟩
            · left; exact ⟨by simpa using h, h⟩
          clear h46
          rcases hN with ⟨t1, t2⟩ | ⟨t1, t2, t3, t4⟩
          all_goals
            go_quiet (fail)
            go_wp2
            go_meet
            case rel => exact ⟨rfl, (Fr.refl _ _).drewN _⟩
      case rest =>
        obtain ⟨rfl, FD⟩ := hcut
        have a0 := FD.cell a0 (fun h => h)
        have o0 := FD.cell o0 (fun h => h)
        have o1 := FD.cell o1 (fun h => h)
        have o2 := FD.cell o2 (fun h => h)
        have o3 := FD.cell o3 (fun h => h)
        have o4 := FD.cell o4 (fun h => h)
        have o5 := FD.cell o5 (fun h => h)
        have p0 := FD.cell p0 (fun h => h)
        have HOd : Hid (∀ W, Fr No wc W → Fr No w W) := fun W f => HOc.out W (FD.trans f)
        clear FD HOc HD
        go_upto_region 14 with fail
        go_cut [96] from 87 to 95 (fun v wx => v = .bool (decide (oS.length ≤ 12 ∧ oT.length ≤ 12)) ∧ wx = wc)
        case first =>
          by_cases hS : oS.length ≤ 12
          · have d1 : decide ((oS.length : Int) ≤ 12) = true := by simp; omega
            have d1' : (oS.length : Int) ≤ 12 := by omega
            have d1n : decide (oS.length ≤ 12) = true := by simp; omega
            by_cases hT : oT.length ≤ 12
            · have d2 : decide ((oT.length : Int) ≤ 12) = true := by simp; omega
              have d2' : (oT.length : Int) ≤ 12 := by omega
              have d2n : decide (oT.length ≤ 12) = true := by simp; omega
              have HZ : Hid (decide (oS.length ≤ 12 ∧ oT.length ≤ 12) = true) := by rw [Hid]; simp; omega
              clear hS hT
              go_wp2
              go_meet
              case rel => exact ⟨by rw [HZ.out], rfl⟩
            · have d2 : decide ((oT.length : Int) ≤ 12) = false := by simp; omega
              have d2' : ¬ (oT.length : Int) ≤ 12 := by omega
              have d2n : decide (oT.length ≤ 12) = false := by simp; omega
              have HZ : Hid (decide (oS.length ≤ 12 ∧ oT.length ≤ 12) = false) := by rw [Hid]; simp; omega
              clear hS hT
              go_wp2
              go_meet
              case rel => exact ⟨by rw [HZ.out], rfl⟩
          · have d1 : decide ((oS.length : Int) ≤ 12) = false := by simp; omega
            have d1' : ¬ (oS.length : Int) ≤ 12 := by omega
            have d1n : decide (oS.length ≤ 12) = false := by simp; omega
            have HZ : Hid (decide (oS.length ≤ 12 ∧ oT.length ≤ 12) = false) := by rw [Hid]; simp; omega
            clear hS
            go_wp2
            go_meet
            case rel => exact ⟨by rw [HZ.out], rfl⟩
        case rest =>
          obtain ⟨rfl, hwc⟩ := hcut
          have hwc := hwc.symm
          subst hwc
          go_upto_if 96 with fail
          go_cut [] from 96 to 121 (fun wx => Fr No wc wx)
          case first =>
            by_cases hST : oS.length ≤ 12 ∧ oT.length ≤ 12
            · obtain ⟨hS, hT⟩ := hST
              have HZ : decide (oS.length ≤ 12 ∧ oT.length ≤ 12) = true := by simp; omega
              rw [HZ]
              clear HZ
              have G1 : Hid (∀ W, Fr No wc W → Calls Try.prog 55 #[.agg #[.pointer (some ⟨x, 0, none⟩)], .pointer (some ⟨y, 0, none⟩), .string (str oS)] W fun e w'' => e = .returned (.bool true) ∧ Fr No W w'') := fun W f => HT1.out W oS (HOd.out W f) hS
              have G2 : Hid (∀ W, Fr No wc W → Calls Try.prog 55 #[.agg #[.pointer (some ⟨x, 0, none⟩)], .pointer (some ⟨y, 0, none⟩), .string (str oT)] W fun e w'' => e = .returned (.bool true) ∧ Fr No W w'') := fun W f => HT1.out W oT (HOd.out W f) hT
              have G3 : Hid (∀ W, Fr No wc W → Calls Try.prog 56 #[.pointer (some ⟨y, 0, none⟩), .string (str oS), .string (str oT)] W fun e w'' => e = .returned (.bool true) ∧ Fr No W w'') := fun W f => HSP.out W oS oT (HOd.out W f) hS hT
              have G4 : Hid (∀ W, Fr No wc W → Calls Try.prog 57 #[.agg #[.pointer (some ⟨x, 0, none⟩)], .pointer (some ⟨y, 0, none⟩), .string (str oS)] W fun e w'' => e = .returned (.bool true) ∧ Fr No W w'') := fun W f => HGS.out W oS (HOd.out W f) hS
              clear hS hT
              go_wp2_with first
                | (go_at_call 55
                   first
                     | (refine (G2.out wf FF).mono ?_
                        rintro e wg ⟨rfl, fg⟩
                        have FG : Fr No wc wg := FF.trans fg
                        have a0 := fg.cell a0 (fun h => h)
                        have o0 := fg.cell o0 (fun h => h)
                        have o1 := fg.cell o1 (fun h => h)
                        have o2 := fg.cell o2 (fun h => h)
                        have o3 := fg.cell o3 (fun h => h)
                        have o4 := fg.cell o4 (fun h => h)
                        have o5 := fg.cell o5 (fun h => h)
                        have p0 := fg.cell p0 (fun h => h)
                        clear fg)
                     | (refine (G1.out wc (Fr.refl _ _)).mono ?_
                        rintro e wf ⟨rfl, FF⟩
                        have a0 := FF.cell a0 (fun h => h)
                        have o0 := FF.cell o0 (fun h => h)
                        have o1 := FF.cell o1 (fun h => h)
                        have o2 := FF.cell o2 (fun h => h)
                        have o3 := FF.cell o3 (fun h => h)
                        have o4 := FF.cell o4 (fun h => h)
                        have o5 := FF.cell o5 (fun h => h)
                        have p0 := FF.cell p0 (fun h => h)))
                | (go_at_call 56; refine (G3.out wg FG).mono ?_
                   rintro e wh ⟨rfl, fh⟩
                   have FH : Fr No wc wh := FG.trans fh
                   have a0 := fh.cell a0 (fun h => h)
                   have o0 := fh.cell o0 (fun h => h)
                   have o1 := fh.cell o1 (fun h => h)
                   have o2 := fh.cell o2 (fun h => h)
                   have o3 := fh.cell o3 (fun h => h)
                   have o4 := fh.cell o4 (fun h => h)
                   have o5 := fh.cell o5 (fun h => h)
                   have p0 := fh.cell p0 (fun h => h)
                   clear fh)
                | (go_at_call 57; refine (G4.out wh FH).mono ?_
                   rintro e wi ⟨rfl, fi⟩
                   have FI : Fr No wc wi := FH.trans fi
                   clear fi)
              go_meet
              case rel => exact FI
            · have HZ : decide (oS.length ≤ 12 ∧ oT.length ≤ 12) = false := by simp only [hST, decide_false]
              rw [HZ]
              clear HZ hST
              go_wp2
              go_meet
              case rel => exact Fr.refl _ _
          case rest =>
            have a0 := hcut.cell a0 (fun h => h)
            have o0 := hcut.cell o0 (fun h => h)
            have o1 := hcut.cell o1 (fun h => h)
            have o2 := hcut.cell o2 (fun h => h)
            have o3 := hcut.cell o3 (fun h => h)
            have o4 := hcut.cell o4 (fun h => h)
            have o5 := hcut.cell o5 (fun h => h)
            have p0 := hcut.cell p0 (fun h => h)
            have HFE : Hid (Fr No w wc) := HOd.out wc hcut
            clear hcut HOd
            go_wp2_with (go_at_call 58; refine (HTO.out wc oa HFE.out).mono ?_; rintro e wz ⟨rfl, fz⟩)
            go_ret
            exact ⟨rfl, HFE.out.trans fz⟩
    end Go.Proofs.Qxb6500357a
