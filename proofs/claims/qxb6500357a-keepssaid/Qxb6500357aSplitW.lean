import Derived.Test.Qxb6500357aWoven
namespace Go.Tag
open Go.Proofs.Qxb6500357a
set_option linter.unusedVariables false
set_option linter.unusedSimpArgs false
theorem find_and (s : St) (a b : Word) (ha : a.length ≤ 12) (hb : b.length ≤ 12) : findL s 1 a b = (s.holders a).filter (hasOf s b) := by
  have e : findErr 1 a b = 0 := by unfold findErr; rw [if_neg (by omega), if_pos (by decide)]
  unfold findL; rw [if_pos e]; unfold setL findSet St.holders
  rw [if_pos rfl, List.filter_filter]
  exact List.filter_congr fun i _ => by rw [Bool.and_comm]
theorem find_not (s : St) (a b : Word) (ha : a.length ≤ 12) (hb : b.length ≤ 12) : findL s 3 a b = (s.holders a).filter fun i => !hasOf s b i := by
  have e : findErr 3 a b = 0 := by unfold findErr; rw [if_neg (by omega), if_pos (by decide)]
  unfold findL; rw [if_pos e]; unfold setL findSet St.holders
  rw [if_neg (by decide), if_neg (by decide), List.filter_filter]
  exact List.filter_congr fun i _ => by rw [Bool.and_comm]
def orL (s : St) (a b : Word) : List Int := idsAll.filter fun i => hasOf s a i || hasOf s b i
theorem find_or2 (s : St) (a b : Word) (ha : a.length ≤ 12) (hb : b.length ≤ 12) : findL s 2 a b = orL s a b := by
  have e : findErr 2 a b = 0 := by unfold findErr; rw [if_neg (by omega), if_pos (by decide)]
  unfold findL; rw [if_pos e]; unfold setL findSet orL
  rw [if_neg (by decide), if_pos rfl]
theorem orL_a (s : St) (a b : Word) : s.holders a = (orL s a b).filter (hasOf s a) := by
  unfold orL St.holders
  rw [List.filter_filter]
  refine List.filter_congr fun i _ => ?_
  cases hasOf s a i <;> simp
theorem orL_b (s : St) (a b : Word) : (s.holders b).filter (fun i => !hasOf s a i) = (orL s a b).filter (fun i => !hasOf s a i) := by
  unfold orL St.holders
  rw [List.filter_filter, List.filter_filter]
  refine List.filter_congr fun i _ => ?_
  cases hasOf s a i <;> simp
theorem orL_sorted (s : St) (a b : Word) : (orL s a b).Pairwise (· < ·) := List.Pairwise.sublist List.filter_sublist (by decide : idsAll.Pairwise (· < ·))
theorem and_comm2 (s : St) (a b : Word) : (s.holders a).filter (hasOf s b) = (s.holders b).filter (hasOf s a) := by
  unfold St.holders
  rw [List.filter_filter, List.filter_filter]
  exact List.filter_congr fun i _ => by rw [Bool.and_comm]
end Go.Tag
namespace Go.Proofs.Qxb6500357a
open Go.RowKit Go.Tag
set_option linter.unusedVariables false
set_option linter.unusedSimpArgs false
set_option maxRecDepth 100000
attribute [local simp] str_size
attribute [local go_sem] str_size

set_option maxHeartbeats 2000000 in
theorem splitW_any (y x : Nat) (F : Nat → Prop) (s : St) (B : Int) (a b : Word) (w : World) (h : QAt w F y x s) (hf : Fine s B) (ha : a.length ≤ 12) (hb : b.length ≤ 12) :
    Calls Try.prog 56 #[.pointer (some ⟨y, 0, none⟩), .string (str a), .string (str b)] w fun e w' => e = .returned (.bool true) ∧ Fr No w w' := by
  have HQ : Hid (∀ w', Fr No w w' → QAt w' F y x s) := fun w' f => ⟨f.heap h.1 (fun h => h), h.2.frNo f⟩
  have HF : Hid (∀ w' op u v, Fr No w w' → Calls Try.prog 34 #[.pointer (some ⟨y, 0, none⟩), .int .i64 op, .string (str u), .string (str v)] w' fun e w'' => ∃ v', e = .returned (.tuple #[v', .int .i64 (findErr op u v)]) ∧ Sl w'' v' ((findL s op u v).map (Value.int .i64)) ∧ Fr No w' w'') := fun w' op u v f =>
    (find_any y x F s B op u v w' (HQ.out w' f) hf).mono fun e w'' ⟨v', h1, h2, h3, _⟩ => ⟨v', h1, own_sl h2, h3⟩
  have HA : Hid (∀ w', Fr No w w' → Calls Try.prog 79 #[.pointer (some ⟨y, 0, none⟩), .string (str a)] w' fun e w'' => ∃ v, e = .returned v ∧ Sl w'' v ((s.holders a).map (Value.int .i64)) ∧ Fr No w' w'') := fun w' f => all_any y x F s B a w' (HQ.out w' f) hf ha
  have HW1 : Hid (∀ w' v1 v2 v3, Sl w' v1 ((findL s 1 a b).map (Value.int .i64)) → Sl w' v2 ((findL s 3 a b).map (Value.int .i64)) → Sl w' v3 ((s.holders a).map (Value.int .i64)) → Calls Try.prog 81 #[v1, v2, v3] w' fun e w'' => e = .returned (.bool true) ∧ Fr No w' w'') := fun w' v1 v2 v3 h1 h2 h3 => by
    rw [find_and s a b ha hb] at h1
    rw [find_not s a b ha hb] at h2
    exact woven_any v1 v2 v3 (s.holders a) (hasOf s b) w' h1 h2 h3 (holders_sorted s a) (by have := List.length_filter_le (hasOf s a) idsAll; unfold St.holders; simp [idsAll] at this ⊢; omega)
  have HW2 : Hid (∀ w' v1 v2 v3, Sl w' v1 ((s.holders a).map (Value.int .i64)) → Sl w' v2 ((findL s 3 b a).map (Value.int .i64)) → Sl w' v3 ((findL s 2 a b).map (Value.int .i64)) → Calls Try.prog 81 #[v1, v2, v3] w' fun e w'' => e = .returned (.bool true) ∧ Fr No w' w'') := fun w' v1 v2 v3 h1 h2 h3 => by
    rw [orL_a s a b] at h1
    rw [find_not s b a hb ha, orL_b s a b] at h2
    rw [find_or2 s a b ha hb] at h3
    exact woven_any v1 v2 v3 (orL s a b) (hasOf s a) w' h1 h2 h3 (orL_sorted s a b) (by have := List.length_filter_le (fun i => hasOf s a i || hasOf s b i) idsAll; unfold orL; simp [idsAll] at this ⊢; omega)
  have hEq : findL s 1 b a = findL s 1 a b := by rw [find_and s a b ha hb, find_and s b a hb ha, and_comm2]
  have HI1 : Hid (∀ w' v', Sl w' v' ((findL s 1 a b).map (Value.int .i64)) → Calls Try.prog 46 #[v'] w' fun e w'' => e = .returned (.string (str (ints (findL s 1 a b)))) ∧ Fr No w' w'') := fun w' v' hs => ints_any v' _ w' hs (findL_num s 1 a b) (findL_len s 1 a b)
  have HEQ : Hid (findL s 1 b a = findL s 1 a b) := hEq
  clear h hf hEq
  go_enter Try.func56, Try.ntmps56
  go_wp2_with first
    | (go_at_call 34
       first
         | (refine (HF.out w4 1 b a F4).mono ?_
            rintro e w5 ⟨v15, rfl, hv15, f5⟩
            have F5 : Fr No w w5 := F4.trans f5
            rw [HEQ.out] at hv15)
         | (refine (HF.out w3 2 a b F3).mono ?_
            rintro e w4 ⟨v13, rfl, hv13, f4⟩
            have F4 : Fr No w w4 := F3.trans f4)
         | (refine (HF.out w2 3 b a F2).mono ?_
            rintro e w3 ⟨v11, rfl, hv11, f3⟩
            have F3 : Fr No w w3 := F2.trans f3)
         | (refine (HF.out w1 3 a b F1).mono ?_
            rintro e w2 ⟨v9, rfl, hv9, f2⟩
            have F2 : Fr No w w2 := F1.trans f2)
         | (refine (HF.out w 1 a b (Fr.refl _ _)).mono ?_
            rintro e w1 ⟨v7, rfl, hv7, f1⟩
            have F1 : Fr No w w1 := f1))
    | (go_at_call 79; refine (HA.out w5 F5).mono ?_; rintro e w6 ⟨v17, rfl, hv17, f6⟩
       have HV : Hid (Sl w6 v7 ((findL s 1 a b).map (Value.int .i64)) ∧ Sl w6 v9 ((findL s 3 a b).map (Value.int .i64)) ∧ Sl w6 v11 ((findL s 3 b a).map (Value.int .i64)) ∧ Sl w6 v13 ((findL s 2 a b).map (Value.int .i64)) ∧ Sl w6 v15 ((findL s 1 a b).map (Value.int .i64)) ∧ Sl w6 v17 ((s.holders a).map (Value.int .i64)) ∧ Fr No w w6) :=
         ⟨((((hv7.fr f2).fr f3).fr f4).fr f5).fr f6, (((hv9.fr f3).fr f4).fr f5).fr f6, ((hv11.fr f4).fr f5).fr f6, (hv13.fr f5).fr f6, hv15.fr f6, hv17, F5.trans f6⟩
       clear hv7 hv9 hv11 hv13 hv15 hv17 f1 f2 f3 f4 f5 f6 F1 F2 F3 F4 F5)
    | (go_at_call 81
       first
         | (refine (HW2.out w7 v17 v11 v13 (HV.out.2.2.2.2.2.1.fr f7) (HV.out.2.2.1.fr f7) (HV.out.2.2.2.1.fr f7)).mono ?_
            rintro e w8 ⟨rfl, f8⟩)
         | (refine (HW1.out w6 v7 v9 v17 HV.out.1 HV.out.2.1 HV.out.2.2.2.2.2.1).mono ?_
            rintro e w7 ⟨rfl, f7⟩))
    | (go_at_call 46
       first
         | (refine (HI1.out w9 v15 (((HV.out.2.2.2.2.1.fr f7).fr f8).fr f9)).mono ?_
            rintro e w10 ⟨rfl, f10⟩)
         | (refine (HI1.out w8 v7 ((HV.out.1.fr f7).fr f8)).mono ?_
            rintro e w9 ⟨rfl, f9⟩))
  go_ret
  exact ⟨by simp, HV.out.2.2.2.2.2.2.trans ((f7.trans f8).trans (f9.trans f10))⟩
end Go.Proofs.Qxb6500357a
