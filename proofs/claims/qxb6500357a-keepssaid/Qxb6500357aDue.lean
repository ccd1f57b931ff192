import Derived.Test.Qxb6500357aLow
namespace Go.Proofs.Qxb6500357a
open Go.RowKit Go.Tag
set_option linter.unusedVariables false
set_option linter.unusedSimpArgs false
set_option maxRecDepth 100000
attribute [local simp] str_size
attribute [local go_sem] str_size

section
variable (A Bb C : Int) (S T : List UInt8) (w : World)
theorem due4_any : Calls Try.prog 54 #[opV 4 A Bb C S T] w fun e w' => e = .returned (.int .i64 (findErr A S T)) ∧ Fr No w w' := by
  unfold opV
  by_cases hS : 12 < S.length
  · have e : findErr A S T = 1 := by unfold findErr; rw [if_pos (.inl hS)]
    have b1 : decide ((12 : Int) < (S.length : Int)) = true := by simp; omega
    have b1' : (12 : Int) < (S.length : Int) := by omega
    rw [e]
    clear e hS
    go_enter Try.func54, Try.ntmps54
    go_wp2
    go_ret
    exact ⟨rfl, (Fr.refl _ _).alloc _⟩
  have b1 : decide ((12 : Int) < (S.length : Int)) = false := by simp; omega
  have b1' : ¬ (12 : Int) < (S.length : Int) := by omega
  by_cases hT : 12 < T.length
  · have e : findErr A S T = 1 := by unfold findErr; rw [if_pos (.inr hT)]
    have b2 : decide ((12 : Int) < (T.length : Int)) = true := by simp; omega
    have b2' : (12 : Int) < (T.length : Int) := by omega
    rw [e]
    clear e hS hT
    go_enter Try.func54, Try.ntmps54
    go_wp2
    go_ret
    exact ⟨rfl, (Fr.refl _ _).alloc _⟩
  have b2 : decide ((12 : Int) < (T.length : Int)) = false := by simp; omega
  have b2' : ¬ (12 : Int) < (T.length : Int) := by omega
  by_cases hA : A < 1
  · have e : findErr A S T = 7 := by unfold findErr; rw [if_neg (by omega), if_neg (by omega)]
    have b3 : decide (A < 1) = true := by simpa using hA
    rw [e]
    clear e hS hT
    go_enter Try.func54, Try.ntmps54
    go_wp2
    go_ret
    exact ⟨rfl, (Fr.refl _ _).alloc _⟩
  have b3 : decide (A < 1) = false := by simpa using hA
  by_cases hA3 : 3 < A
  · have e : findErr A S T = 7 := by unfold findErr; rw [if_neg (by omega), if_neg (by omega)]
    have b4 : decide (3 < A) = true := by simpa using hA3
    rw [e]
    clear e hS hT
    go_enter Try.func54, Try.ntmps54
    go_wp2
    go_ret
    exact ⟨rfl, (Fr.refl _ _).alloc _⟩
  have b4 : decide (3 < A) = false := by simpa using hA3
  have e : findErr A S T = 0 := by unfold findErr; rw [if_neg (by omega), if_pos (by omega)]
  rw [e]
  clear e hS hT
  go_enter Try.func54, Try.ntmps54
  go_wp2
  go_ret
  exact ⟨rfl, (Fr.refl _ _).alloc _⟩
theorem due5_any : Calls Try.prog 54 #[opV 5 A Bb C S T] w fun e w' => e = .returned (.int .i64 (groupsErr S)) ∧ Fr No w w' := by
  unfold opV
  by_cases hS : 12 < S.length
  · have e : groupsErr S = 1 := by unfold groupsErr; rw [if_pos hS]
    have b1 : decide ((12 : Int) < (S.length : Int)) = true := by simp; omega
    have b1' : (12 : Int) < (S.length : Int) := by omega
    rw [e]
    clear e hS
    go_enter Try.func54, Try.ntmps54
    go_wp2
    go_ret
    exact ⟨rfl, (Fr.refl _ _).alloc _⟩
  have b1 : decide ((12 : Int) < (S.length : Int)) = false := by simp; omega
  have b1' : ¬ (12 : Int) < (S.length : Int) := by omega
  have e : groupsErr S = 0 := by unfold groupsErr; rw [if_neg hS]
  rw [e]
  clear e hS
  go_enter Try.func54, Try.ntmps54
  go_wp2
  go_ret
  exact ⟨rfl, (Fr.refl _ _).alloc _⟩
theorem due6_any : Calls Try.prog 54 #[opV 6 A Bb C S T] w fun e w' => e = .returned (.int .i64 (topErr A)) ∧ Fr No w w' := by
  unfold opV
  by_cases hA : A < 0
  · have e : topErr A = 8 := by unfold topErr; rw [if_neg (by omega)]
    have b3 : decide (A < 0) = true := by simpa using hA
    rw [e]
    clear e
    go_enter Try.func54, Try.ntmps54
    go_wp2
    all_goals
      go_ret
      exact ⟨rfl, (Fr.refl _ _).alloc _⟩
  have b3 : decide (A < 0) = false := by simpa using hA
  by_cases hA3 : 4 < A
  · have e : topErr A = 8 := by unfold topErr; rw [if_neg (by omega)]
    have b4 : decide (4 < A) = true := by simpa using hA3
    rw [e]
    clear e
    go_enter Try.func54, Try.ntmps54
    go_wp2
    all_goals
      go_ret
      exact ⟨rfl, (Fr.refl _ _).alloc _⟩
  have b4 : decide (4 < A) = false := by simpa using hA3
  have e : topErr A = 0 := by unfold topErr; rw [if_pos (by omega)]
  rw [e]
  clear e
  go_enter Try.func54, Try.ntmps54
  go_wp2
  all_goals
    go_ret
    exact ⟨rfl, (Fr.refl _ _).alloc _⟩
end
/-- What the contract's words demand of a question. -/
theorem due_any (s : St) (o : Op) (w : World) (hk : 4 ≤ o.k ∧ o.k ≤ 6) : Calls Try.prog 54 #[o.v] w fun e w' => e = .returned (.int .i64 (doA s o).e) ∧ Fr No w w' := by
  obtain ⟨k, A, Bb, C, S, T⟩ := o
  simp only at hk
  unfold Op.v doA
  simp only []
  rcases (show k = 4 ∨ k = 5 ∨ k = 6 by omega) with rfl | rfl | rfl
  · exact due4_any A Bb C S T w
  · exact due5_any A Bb C S T w
  · exact due6_any A Bb C S T w
end Go.Proofs.Qxb6500357a
