import Derived.Test.Qxb6500357aRuns
import Derived.Test.Qxb6500357aSmall
import Derived.Test.Qxb6500357aSplit
namespace Go.Proofs.Qxb6500357a
open Go.RowKit Go.Tag
set_option linter.unusedVariables false
set_option linter.unusedSimpArgs false
set_option maxRecDepth 100000
attribute [local simp] str_size
attribute [local go_sem] str_size

def standsB (t u : Word) : Bool := decide (u ∈ wordsOf t)
theorem stands_nil (t : Word) : standsB t [] = false := by
  unfold standsB; rw [decide_eq_false_iff_not, wordsOf_run]
  rintro ⟨a, b, _, _, _, _, h⟩; exact h rfl
theorem stands_long {t u : Word} (h : t.length < u.length) : standsB t u = false := by
  unfold standsB; rw [decide_eq_false_iff_not, wordsOf_run]
  rintro ⟨a, b, rfl, _⟩; simp at h; omega
theorem stands_blank {t u : Word} (h : (32 : UInt8) ∈ u) : standsB t u = false := by
  unfold standsB; rw [decide_eq_false_iff_not, wordsOf_run]
  rintro ⟨a, b, _, _, _, hu, _⟩; exact hu h
theorem stands_yes {t u : Word} (hne : u ≠ []) (hu : (32 : UInt8) ∉ u) {i : Nat} (h1 : i + u.length ≤ t.length) (h2 : StandsAt t u i) : standsB t u = true := by
  unfold standsB; rw [decide_eq_true_iff, stands_iff hne hu]; exact ⟨i, h1, h2⟩
theorem stands_no {t u : Word} (hne : u ≠ []) (hu : (32 : UInt8) ∉ u) (h : ∀ i, i + u.length ≤ t.length → ¬ StandsAt t u i) : standsB t u = false := by
  unfold standsB; rw [decide_eq_false_iff_not, stands_iff hne hu]; rintro ⟨i, h1, h2⟩; exact h i h1 h2

theorem byte32_ne {c : UInt8} (h : ¬ c = 32) : ((c.toNat : Int) == 32) = false := by
  simp only [beq_eq_false_iff_ne, ne_eq]
  intro e; exact h (UInt8.toNat_inj.1 (by simpa using (by omega : c.toNat = 32)))

set_option maxHeartbeats 4000000 in
theorem stands_any (t u : Word) (w : World) (ht : t.length ≤ 1000) (hl : u.length ≤ 1000) : Calls Try.prog 73 #[.string (str t), .string (str u)] w fun e w' => e = .returned (.bool (standsB t u)) ∧ w' = w := by
  by_cases hn : u = []
  · subst hn
    rw [stands_nil]
    have h0 : (((str ([] : Word)).size : Int) == 0) = true := rfl
    go_enter Try.func73, Try.ntmps73
    go_wp2
    all_goals (go_ret; exact ⟨rfl, rfl⟩)
  have hpos : 0 < u.length := List.length_pos_iff.2 hn
  have h0 : ((u.length : Int) == 0) = false := by simp; omega
  by_cases hlong : t.length < u.length
  · rw [stands_long hlong]
    have h1 : decide ((t.length : Int) < (u.length : Int)) = true := by simp; omega
    go_enter Try.func73, Try.ntmps73
    go_wp2
    all_goals (go_ret; exact ⟨rfl, rfl⟩)
  have h1 : decide ((t.length : Int) < (u.length : Int)) = false := by simp; omega
  have HB : Hid ((32 : UInt8) ∈ u → standsB t u = false) := stands_blank
  have HNE : Hid (u ≠ []) := hn
  have HG : Hid (∀ j (h : j < u.length), (((str u)[j]'(by rw [str_size]; exact h)).toNat : Int) = (u[j].toNat : Int)) := fun j h => rfl
  go_enter Try.func73, Try.ntmps73
  go_wp2
  go_loop [6] (fun k => ∃ j : Nat, j ≤ u.length ∧ k = .int .i64 j ∧ Hid ((32 : UInt8) ∉ u.take j)) (fun k => u.length - (intOf k).toNat)
  case atStart => exact ⟨0, Nat.zero_le _, rfl, by simp [Hid]⟩
  case round =>
    obtain ⟨j, hj, rfl, hok⟩ := hrel
    by_cases hlt : j < u.length
    · by_cases h32 : u[j] = 32
      · have hv : ((((str u)[j]'(by rw [str_size]; exact hlt)).toNat : Int) == 32) = true := by rw [HG.out j hlt, h32]; rfl
        have HE : Hid (standsB t u = false) := HB.out (by rw [← h32]; exact List.getElem_mem _)
        clear h32
        go_wp2
        go_ret
        exact ⟨by rw [HE.out]; rfl, rfl⟩
      · have hv : ((((str u)[j]'(by rw [str_size]; exact hlt)).toNat : Int) == 32) = false := by
          rw [HG.out j hlt]
          simp only [beq_eq_false_iff_ne, ne_eq]
          intro e; exact h32 (UInt8.toNat_inj.1 (by simpa using (by omega : u[j].toNat = 32)))
        have HK : Hid ((32 : UInt8) ∉ u.take (j + 1)) := by
          rw [Hid, take_snoc u j hlt]
          simp only [List.mem_append, List.mem_singleton, not_or]
          exact ⟨hok.out, Ne.symm h32⟩
        clear h32
        go_wp2
        go_round
        case rel => exact ⟨j + 1, by omega, by go_num, HK⟩
        case measure => simp [intOf]; omega
    · have hju : j = u.length := by omega
      have HU : Hid ((32 : UInt8) ∉ u) := by have := hok.out; rw [hju, List.take_length] at this; exact this
      clear hju hok
      go_wp2
      go_loop [7] (fun k => ∃ i : Nat, i ≤ t.length ∧ k = .int .i64 i ∧ Hid (∀ i', i' < i → ¬ StandsAt t u i')) (fun k => t.length + 1 - (intOf k).toNat)
      case atStart => exact ⟨0, Nat.zero_le _, rfl, fun i' h => absurd h (Nat.not_lt_zero _)⟩
      case round =>
        obtain ⟨i, hi, rfl, hno⟩ := hrel
        by_cases hle : i + u.length ≤ t.length
        · have HSL : Hid ((str t).extract i (i + u.length) = str ((t.take (i + u.length)).drop i)) := str_extract t i (i + u.length)
          have hG2 : ∀ j (h : j < t.length), (((str t)[j]'(by rw [str_size]; exact h)).toNat : Int) = (t[j].toNat : Int) := fun j h => rfl
          have HY : Hid (StandsAt t u i → standsB t u = true) := fun h => stands_yes HNE.out HU.out hle h
          have HNX : Hid (¬ StandsAt t u i → ∀ i', i' < i + 1 → ¬ StandsAt t u i') := fun h i' hi' => by
            rcases Nat.lt_or_ge i' i with h' | h'
            · exact hno.out i' h'
            · have : i' = i := by omega
              subst this; exact h
          have hM : (Hid (((t.take (i + u.length)).drop i) = u) ∧ (((str t).extract i (i + u.length)).toList == (str u).toList) = true) ∨ (Hid (¬ ((t.take (i + u.length)).drop i) = u) ∧ (((str t).extract i (i + u.length)).toList == (str u).toList) = false) := by
            rw [HSL.out, str_toList, str_toList]
            by_cases h : ((t.take (i + u.length)).drop i) = u
            · exact .inl ⟨h, by simpa using h⟩
            · exact .inr ⟨h, by simpa using h⟩
          have hH : ((((i : Int) + (u.length : Int)) == (t.length : Int)) = true ∧ Hid (i + u.length = t.length ∨ ∃ h : i + u.length < t.length, t[i + u.length] = 32)) ∨ (∃ h : i + u.length < t.length, ((t[i + u.length].toNat : Int) == 32) = true ∧ Hid (i + u.length = t.length ∨ ∃ h : i + u.length < t.length, t[i + u.length] = 32)) ∨ (∃ h : i + u.length < t.length, ((t[i + u.length].toNat : Int) == 32) = false ∧ Hid (¬ (i + u.length = t.length ∨ ∃ h : i + u.length < t.length, t[i + u.length] = 32))) := by
            by_cases h : i + u.length = t.length
            · exact .inl ⟨by simp; omega, .inl h⟩
            · have h' : i + u.length < t.length := by omega
              by_cases h2 : t[i + u.length] = 32
              · exact .inr (.inl ⟨h', by rw [h2]; rfl, .inr ⟨h', h2⟩⟩)
              · refine .inr (.inr ⟨h', by rw [byte32_ne h2], ?_⟩)
                rintro (e | ⟨_, e⟩)
                · exact h e
                · exact h2 e
          have hB : (((i : Int) == 0) = true ∧ Hid (i = 0 ∨ ∃ h : i - 1 < t.length, t[i - 1] = 32)) ∨ (∃ k, ∃ h : k < t.length, i = k + 1 ∧ ((t[k].toNat : Int) == 32) = true ∧ Hid (i = 0 ∨ ∃ h : i - 1 < t.length, t[i - 1] = 32)) ∨ (∃ k, ∃ h : k < t.length, i = k + 1 ∧ ((t[k].toNat : Int) == 32) = false ∧ Hid (¬ (i = 0 ∨ ∃ h : i - 1 < t.length, t[i - 1] = 32))) := by
            by_cases h : i = 0
            · exact .inl ⟨by simp [h], .inl h⟩
            · have h' : i - 1 < t.length := by omega
              by_cases h2 : t[i - 1] = 32
              · exact .inr (.inl ⟨i - 1, h', by omega, by rw [h2]; rfl, .inr ⟨h', h2⟩⟩)
              · refine .inr (.inr ⟨i - 1, h', by omega, by rw [byte32_ne h2], ?_⟩)
                rintro (e | ⟨_, e⟩)
                · exact h e
                · exact h2 e
          clear hno
          rcases hB with ⟨hi0, hBB⟩ | ⟨k, hk, hk1, hv, hBB⟩ | ⟨k, hk, hk1, hv, hBB⟩
          · rcases hH with ⟨hh, hHH⟩ | ⟨hh, hhv, hHH⟩ | ⟨hh, hhv, hHH⟩
            all_goals
              rcases hM with ⟨hMM, hm⟩ | ⟨hMM, hm⟩
              all_goals
                go_wp2
                first
                  | (go_ret; exact ⟨by rw [HY.out ⟨hBB.out, hHH.out, hMM.out⟩]; rfl, rfl⟩)
                  | (go_round
                     case rel => exact ⟨i + 1, by omega, by go_num, HNX.out (by first | exact fun h => hBB.out h.1 | exact fun h => hHH.out h.2.1 | exact fun h => hMM.out h.2.2)⟩
                     case measure => simp [intOf]; omega)
          · have hki : (i : Int) - 1 = (k : Int) := by omega
            have hi0 : ((i : Int) == 0) = false := by simp; omega
            clear hk1
            rcases hH with ⟨hh, hHH⟩ | ⟨hh, hhv, hHH⟩ | ⟨hh, hhv, hHH⟩
            all_goals
              rcases hM with ⟨hMM, hm⟩ | ⟨hMM, hm⟩
              all_goals
                go_wp2
                first
                  | (go_ret; exact ⟨by rw [HY.out ⟨hBB.out, hHH.out, hMM.out⟩]; rfl, rfl⟩)
                  | (go_round
                     case rel => exact ⟨i + 1, by omega, by go_num, HNX.out (by first | exact fun h => hBB.out h.1 | exact fun h => hHH.out h.2.1 | exact fun h => hMM.out h.2.2)⟩
                     case measure => simp [intOf]; omega)
          · have hki : (i : Int) - 1 = (k : Int) := by omega
            have hi0 : ((i : Int) == 0) = false := by simp; omega
            clear hk1
            rcases hH with ⟨hh, hHH⟩ | ⟨hh, hhv, hHH⟩ | ⟨hh, hhv, hHH⟩
            all_goals
              rcases hM with ⟨hMM, hm⟩ | ⟨hMM, hm⟩
              all_goals
                go_wp2
                first
                  | (go_ret; exact ⟨by rw [HY.out ⟨hBB.out, hHH.out, hMM.out⟩]; rfl, rfl⟩)
                  | (go_round
                     case rel => exact ⟨i + 1, by omega, by go_num, HNX.out (by first | exact fun h => hBB.out h.1 | exact fun h => hHH.out h.2.1 | exact fun h => hMM.out h.2.2)⟩
                     case measure => simp [intOf]; omega)
        · have HE : Hid (standsB t u = false) := stands_no HNE.out HU.out (fun i' h' => hno.out i' (by omega))
          go_wp2
          go_ret
          exact ⟨by rw [HE.out]; rfl, rfl⟩
end Go.Proofs.Qxb6500357a
