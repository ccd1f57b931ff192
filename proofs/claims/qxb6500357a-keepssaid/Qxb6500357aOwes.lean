import Derived.Test.Qxb6500357aGhost
namespace Go.Proofs.Qxb6500357a
open Go.RowKit Go.Tag
set_option linter.unusedVariables false
set_option linter.unusedSimpArgs false
set_option maxRecDepth 100000
section
set_option maxHeartbeats 400000 in
theorem plain_any (l : List UInt8) (w : World) (hlen : l.length ≤ 1000) : Calls Try.prog 41 #[.string (str l)] w fun e w' => e = .returned (.bool (textOK l)) ∧ w' = w := by
  have HG : Hid (∀ j (h : j < (str l).size), ∃ c : UInt8, (str l)[j] = c ∧ textOK (l.take (j + 1)) = (textOK (l.take j) && (c == 32 || (decide (97 ≤ c.toNat) && decide (c.toNat ≤ 122)))) ∧ (textOK (l.take (j + 1)) = false → textOK l = false)) := by
    intro j h
    have hj : j < l.length := by rw [← str_size]; exact h
    refine ⟨l[j], str_get l j h, by rw [take_snoc l j hj, textOK_snoc], fun hf => ?_⟩
    have : textOK (l.take (j + 1)) = true ∨ textOK l = false := by
      cases ht : textOK l with
      | false => exact .inr rfl
      | true => left; unfold textOK at ht ⊢; rw [List.all_eq_true] at ht ⊢; exact fun x hx => ht x (List.mem_of_mem_take hx)
    rcases this with h | h
    · rw [h] at hf; cases hf
    · exact h
  have HN : Hid (∀ n, n = (str l).size → l.take n = l) := fun n h => by rw [h, str_size]; exact List.take_length
  have hb : (str l).size ≤ 1000 := by rw [str_size]; exact hlen
  have H0 : Hid (textOK (l.take 0) = true) := rfl
  generalize str l = s at *
  go_enter Try.func41, Try.ntmps41
  go_wp2
  go_loop [3] (fun k => ∃ j : Nat, j ≤ s.size ∧ k = .int .i64 j ∧ Hid (textOK (l.take j) = true)) (fun k => s.size - (intOf k).toNat)
  case atStart => exact ⟨0, Nat.zero_le _, rfl, H0⟩
  case round =>
    obtain ⟨j, hj, rfl, hok⟩ := hrel
    by_cases hlt : j < s.size
    · obtain ⟨c, hc, hstep, hbad⟩ := HG.out j hlt
      have HS : Hid (textOK (l.take (j + 1)) = (textOK (l.take j) && (c == 32 || (decide (97 ≤ c.toNat) && decide (c.toNat ≤ 122))))) := hstep
      have HB : Hid (textOK (l.take (j + 1)) = false → textOK l = false) := hbad
      have hcl := c.toNat_lt
      clear hstep hbad HG
      by_cases h32 : c.toNat = 32
      · have hv : (((s[j].toNat : Nat) : Int) != 32) = false := by rw [hc]; simp; omega
        have HK : Hid (textOK (l.take (j + 1)) = true) := by
          show _ = _
          rw [HS.out, hok.out]
          have : c = 32 := by apply UInt8.toNat_inj.1; exact h32
          simp [this]
        clear hc
        go_wp2
        go_round
        case rel => exact ⟨j + 1, by omega, by go_num, HK⟩
        case measure => simp [intOf]; omega
      · have hv : (((s[j].toNat : Nat) : Int) != 32) = true := by rw [hc]; simp; omega
        have hne : (c == 32) = false := by simp; intro e; rw [e] at h32; exact h32 rfl
        by_cases h97 : c.toNat < 97
        · have hv2 : decide (((s[j].toNat : Nat) : Int) < 97) = true := by rw [hc]; simp; omega
          have HK : Hid (textOK l = false) := HB.out (by rw [HS.out, hne]; simp; omega)
          clear hc
          go_wp2
          go_ret
          exact ⟨by rw [HK.out]; rfl, rfl⟩
        · have hv2 : decide (((s[j].toNat : Nat) : Int) < 97) = false := by rw [hc]; simp; omega
          by_cases h122 : 122 < c.toNat
          · have hv3 : decide ((122 : Int) < ((s[j].toNat : Nat) : Int)) = true := by rw [hc]; simp; omega
            have HK : Hid (textOK l = false) := HB.out (by rw [HS.out, hne]; simp; omega)
            clear hc
            go_wp2
            go_ret
            exact ⟨by rw [HK.out]; rfl, rfl⟩
          · have hv3 : decide ((122 : Int) < ((s[j].toNat : Nat) : Int)) = false := by rw [hc]; simp; omega
            have HK : Hid (textOK (l.take (j + 1)) = true) := by
              show _ = _
              rw [HS.out, hok.out]; simp; omega
            clear hc
            go_wp2
            go_round
            case rel => exact ⟨j + 1, by omega, by go_num, HK⟩
            case measure => simp [intOf]; omega
    · have hjn : Hid (j = s.size) := (by omega : j = s.size)
      go_wp2
      go_ret
      exact ⟨by rw [← HN.out j hjn.out, hok.out]; rfl, rfl⟩

end
attribute [local simp] str_size
attribute [local go_sem] str_size
section
variable (gb t0 g0 x0 p0 : Nat) (s : St) (B : Int) (w : World) (A Bb C : Int) (S T : List UInt8)
theorem owesReset_any (h : GhostAt w gb t0 g0 x0 p0 s) : Calls Try.prog 13 #[.pointer (some ⟨gb, 0, none⟩), opV 10 A Bb C S T] w (AskPost w 0 (s.ids.length : Int) []) := by
  obtain ⟨c0, c1, c2, c3, c4⟩ := h.cells
  have hgw := h.lt gb (.inl rfl)
  generalize (s.ids.length : Int) = n at *
  clear h
  unfold opV
  go_enter Try.func13, Try.ntmps13
  go_wp2
  all_goals
    refine bodyPost_ret (v := ansV 0 n []) (by simp [results, Try.results13, go_sem, ansV] <;> rfl) rfl ⟨rfl, ?_⟩
    repeat (first | exact Fr.refl _ _ | refine Fr.alloc ?_ _ | refine Fr.setCell ?_ (.inl (Nat.le_succ _)) _ | refine Fr.drewN ?_ _ | refine Fr.drew ?_)
theorem owesDel_bad (h : GhostAt w gb t0 g0 x0 p0 s) (hA : ¬ (1 ≤ A ∧ A ≤ 9)) : Calls Try.prog 13 #[.pointer (some ⟨gb, 0, none⟩), opV 2 A Bb C S T] w (AskPost w 2 0 []) := by
  obtain ⟨c0, c1, c2, c3, c4⟩ := h.cells
  have hgw := h.lt gb (.inl rfl)
  have htw := h.lt t0 (.inr (.inl rfl))
  have hA' : (1 ≤ A → ¬ A ≤ 9) := fun h1 h2 => hA ⟨h1, h2⟩
  clear h hA
  unfold opV
  by_cases h1 : 1 ≤ A
  · have h2 := hA' h1
    have h2' : decide (A ≤ 9) = false := by simpa using h2
    have h1' : decide (1 ≤ A) = true := by simpa using h1
    clear hA'
    go_enter Try.func13, Try.ntmps13
    go_wp2
    refine bodyPost_ret (v := ansV 2 0 []) (by simp [results, Try.results13, go_sem, ansV] <;> rfl) rfl ⟨rfl, ?_⟩
    repeat (first | exact Fr.refl _ _ | refine Fr.alloc ?_ _ | refine Fr.setCell ?_ (.inl (Nat.le_succ _)) _ | refine Fr.drewN ?_ _ | refine Fr.drew ?_)
  · have h1' : decide (1 ≤ A) = false := by simpa using h1
    clear hA'
    go_enter Try.func13, Try.ntmps13
    go_wp2
    refine bodyPost_ret (v := ansV 2 0 []) (by simp [results, Try.results13, go_sem, ansV] <;> rfl) rfl ⟨rfl, ?_⟩
    repeat (first | exact Fr.refl _ _ | refine Fr.alloc ?_ _ | refine Fr.setCell ?_ (.inl (Nat.le_succ _)) _ | refine Fr.drewN ?_ _ | refine Fr.drew ?_)
set_option maxHeartbeats 1000000 in
theorem owesDel_good (a : Nat) (hA : 1 ≤ a ∧ a ≤ 9) (h : GhostAt w gb t0 g0 x0 p0 s) : Calls Try.prog 13 #[.pointer (some ⟨gb, 0, none⟩), opV 2 a Bb C S T] w (AskPost w (if (s.docs a).isSome then 0 else 6) 0 []) := by
  obtain ⟨c0, c1, c2, c3, c4⟩ := h.cells
  have hgw := h.lt gb (.inl rfl)
  have htw := h.lt t0 (.inr (.inl rfl))
  have ct := h.there.cell (i := a) (by omega)
  unfold gT at ct
  have h1 : 1 ≤ a := hA.1
  have h2 : a ≤ 9 := hA.2
  have h1' : decide (1 ≤ a) = true := by simpa using h1
  have h2' : decide (a ≤ 9) = true := by simpa using h2
  have h3 : (1 : Int) ≤ (a : Int) := by omega
  have h4 : (a : Int) ≤ 9 := by omega
  clear h hA
  unfold opV
  cases hd : (s.docs a).isSome with
  | true =>
    rw [hd] at ct
    clear hd
    go_enter Try.func13, Try.ntmps13
    go_wp2
    go_quiet (fail)
    go_wp2
    refine bodyPost_ret (v := ansV 0 0 []) (by simp [results, Try.results13, go_sem, ansV] <;> rfl) rfl ⟨rfl, ?_⟩
    repeat (first | exact Fr.refl _ _ | refine Fr.alloc ?_ _ | refine Fr.setCell ?_ (.inl (Nat.le_succ _)) _ | refine Fr.drewN ?_ _ | refine Fr.drew ?_)
  | false =>
    rw [hd] at ct
    clear hd
    go_enter Try.func13, Try.ntmps13
    go_wp2
    go_quiet (fail)
    go_wp2
    refine bodyPost_ret (v := ansV 6 0 []) (by simp [results, Try.results13, go_sem, ansV] <;> rfl) rfl ⟨rfl, ?_⟩
    repeat (first | exact Fr.refl _ _ | refine Fr.alloc ?_ _ | refine Fr.setCell ?_ (.inl (Nat.le_succ _)) _ | refine Fr.drewN ?_ _ | refine Fr.drew ?_)
theorem owesPut_long (h : GhostAt w gb t0 g0 x0 p0 s) (hS : 12 < S.length) : Calls Try.prog 13 #[.pointer (some ⟨gb, 0, none⟩), opV 1 A Bb C S T] w (AskPost w 1 0 []) := by
  obtain ⟨c0, c1, c2, c3, c4⟩ := h.cells
  have hgw := h.lt gb (.inl rfl)
  have htw := h.lt t0 (.inr (.inl rfl))
  have hqw := h.lt g0 (.inr (.inr (.inl rfl)))
  have hS' : decide ((12 : Int) < (S.length : Int)) = true := by simp; omega
  clear h
  unfold opV
  go_enter Try.func13, Try.ntmps13
  go_wp2
  all_goals
    refine bodyPost_ret (v := ansV 1 0 []) (by simp [results, Try.results13, go_sem, ansV] <;> rfl) rfl ⟨rfl, ?_⟩
    repeat (first | exact Fr.refl _ _ | refine Fr.alloc ?_ _ | refine Fr.setCell ?_ (.inl (Nat.le_succ _)) _ | refine Fr.drewN ?_ _ | refine Fr.drew ?_)
theorem owesPut_id (h : GhostAt w gb t0 g0 x0 p0 s) (hS : S.length ≤ 12) (hA : ¬ (1 ≤ A ∧ A ≤ 9)) : Calls Try.prog 13 #[.pointer (some ⟨gb, 0, none⟩), opV 1 A Bb C S T] w (AskPost w 2 0 []) := by
  obtain ⟨c0, c1, c2, c3, c4⟩ := h.cells
  have hgw := h.lt gb (.inl rfl)
  have htw := h.lt t0 (.inr (.inl rfl))
  have hqw := h.lt g0 (.inr (.inr (.inl rfl)))
  have hS' : decide ((12 : Int) < (S.length : Int)) = false := by simp; omega
  have hA' : (1 ≤ A → ¬ A ≤ 9) := fun h1 h2 => hA ⟨h1, h2⟩
  clear h hA
  unfold opV
  by_cases h1 : 1 ≤ A
  · have h2 := hA' h1
    have h2' : decide (A ≤ 9) = false := by simpa using h2
    have h1' : decide (1 ≤ A) = true := by simpa using h1
    clear hA'
    go_enter Try.func13, Try.ntmps13
    go_wp2
    refine bodyPost_ret (v := ansV 2 0 []) (by simp [results, Try.results13, go_sem, ansV] <;> rfl) rfl ⟨rfl, ?_⟩
    repeat (first | exact Fr.refl _ _ | refine Fr.alloc ?_ _ | refine Fr.setCell ?_ (.inl (Nat.le_succ _)) _ | refine Fr.drewN ?_ _ | refine Fr.drew ?_)
  · have h1' : decide (1 ≤ A) = false := by simpa using h1
    clear hA'
    go_enter Try.func13, Try.ntmps13
    go_wp2
    refine bodyPost_ret (v := ansV 2 0 []) (by simp [results, Try.results13, go_sem, ansV] <;> rfl) rfl ⟨rfl, ?_⟩
    repeat (first | exact Fr.refl _ _ | refine Fr.alloc ?_ _ | refine Fr.setCell ?_ (.inl (Nat.le_succ _)) _ | refine Fr.drewN ?_ _ | refine Fr.drew ?_)
theorem owesPut_group (a : Nat) (hA : 1 ≤ a ∧ a ≤ 9) (h : GhostAt w gb t0 g0 x0 p0 s) (hS : S.length ≤ 12) (hB : ¬ (0 ≤ Bb ∧ Bb ≤ 2)) : Calls Try.prog 13 #[.pointer (some ⟨gb, 0, none⟩), opV 1 a Bb C S T] w (AskPost w 3 0 []) := by
  obtain ⟨c0, c1, c2, c3, c4⟩ := h.cells
  have hgw := h.lt gb (.inl rfl)
  have htw := h.lt t0 (.inr (.inl rfl))
  have hqw := h.lt g0 (.inr (.inr (.inl rfl)))
  have h1 : 1 ≤ a := hA.1
  have h2 : a ≤ 9 := hA.2
  have h1' : decide (1 ≤ a) = true := by simpa using h1
  have h2' : decide (a ≤ 9) = true := by simpa using h2
  have h3 : (1 : Int) ≤ (a : Int) := by omega
  have h4 : (a : Int) ≤ 9 := by omega
  have hS' : decide ((12 : Int) < (S.length : Int)) = false := by simp; omega
  clear h hA
  unfold opV
  by_cases h5 : Bb < 0
  · have h5' : decide (Bb < 0) = true := by simpa using h5
    go_enter Try.func13, Try.ntmps13
    go_wp2
    refine bodyPost_ret (v := ansV 3 0 []) (by simp [results, Try.results13, go_sem, ansV] <;> rfl) rfl ⟨rfl, ?_⟩
    repeat (first | exact Fr.refl _ _ | refine Fr.alloc ?_ _ | refine Fr.setCell ?_ (.inl (Nat.le_succ _)) _ | refine Fr.drewN ?_ _ | refine Fr.drew ?_)
  · have h5' : decide (Bb < 0) = false := by simpa using h5
    have h6' : decide (2 < Bb) = true := by simp; omega
    go_enter Try.func13, Try.ntmps13
    go_wp2
    refine bodyPost_ret (v := ansV 3 0 []) (by simp [results, Try.results13, go_sem, ansV] <;> rfl) rfl ⟨rfl, ?_⟩
    repeat (first | exact Fr.refl _ _ | refine Fr.alloc ?_ _ | refine Fr.setCell ?_ (.inl (Nat.le_succ _)) _ | refine Fr.drewN ?_ _ | refine Fr.drew ?_)
theorem owesPut_text (a : Nat) (hA : 1 ≤ a ∧ a ≤ 9) (h : GhostAt w gb t0 g0 x0 p0 s) (hS : S.length ≤ 12) (hB : 0 ≤ Bb ∧ Bb ≤ 2) (hT : textOK S = false) : Calls Try.prog 13 #[.pointer (some ⟨gb, 0, none⟩), opV 1 a Bb C S T] w (AskPost w 4 0 []) := by
  obtain ⟨c0, c1, c2, c3, c4⟩ := h.cells
  have hgw := h.lt gb (.inl rfl)
  have htw := h.lt t0 (.inr (.inl rfl))
  have hqw := h.lt g0 (.inr (.inr (.inl rfl)))
  have h1 : 1 ≤ a := hA.1
  have h2 : a ≤ 9 := hA.2
  have h1' : decide (1 ≤ a) = true := by simpa using h1
  have h2' : decide (a ≤ 9) = true := by simpa using h2
  have h3 : (1 : Int) ≤ (a : Int) := by omega
  have h4 : (a : Int) ≤ 9 := by omega
  have hS' : decide ((12 : Int) < (S.length : Int)) = false := by simp; omega
  have h5' : decide (Bb < 0) = false := by simp; omega
  have h6' : decide (2 < Bb) = false := by simp; omega
  have HP : Hid (∀ w', Calls Try.prog 41 #[.string (str S)] w' fun e w'' => e = .returned (.bool (textOK S)) ∧ w'' = w') := fun w' => plain_any S w' (by omega)
  rw [hT] at HP
  clear h hA hB hT
  unfold opV
  go_enter Try.func13, Try.ntmps13
  go_wp2_with (go_at_call 41; refine (HP.out _).mono ?_; rintro e w1 ⟨rfl, rfl⟩)
  refine bodyPost_ret (v := ansV 4 0 []) (by simp [results, Try.results13, go_sem, ansV] <;> rfl) rfl ⟨rfl, ?_⟩
  repeat (first | exact Fr.refl _ _ | refine Fr.alloc ?_ _ | refine Fr.setCell ?_ (.inl (Nat.le_succ _)) _ | refine Fr.drewN ?_ _ | refine Fr.drew ?_)
set_option maxHeartbeats 1000000 in
theorem owesPut_there (a : Nat) (hA : 1 ≤ a ∧ a ≤ 9) (h : GhostAt w gb t0 g0 x0 p0 s) (hS : S.length ≤ 12) (hB : 0 ≤ Bb ∧ Bb ≤ 2) (hT : textOK S = true) (hd : (s.docs a).isSome = true) : Calls Try.prog 13 #[.pointer (some ⟨gb, 0, none⟩), opV 1 a Bb C S T] w (AskPost w 0 0 []) := by
  obtain ⟨c0, c1, c2, c3, c4⟩ := h.cells
  have hgw := h.lt gb (.inl rfl)
  have htw := h.lt t0 (.inr (.inl rfl))
  have hqw := h.lt g0 (.inr (.inr (.inl rfl)))
  have h1 : 1 ≤ a := hA.1
  have h2 : a ≤ 9 := hA.2
  have h1' : decide (1 ≤ a) = true := by simpa using h1
  have h2' : decide (a ≤ 9) = true := by simpa using h2
  have h3 : (1 : Int) ≤ (a : Int) := by omega
  have h4 : (a : Int) ≤ 9 := by omega
  have hS' : decide ((12 : Int) < (S.length : Int)) = false := by simp; omega
  have h5' : decide (Bb < 0) = false := by simp; omega
  have h6' : decide (2 < Bb) = false := by simp; omega
  have HP : Hid (∀ w', Calls Try.prog 41 #[.string (str S)] w' fun e w'' => e = .returned (.bool (textOK S)) ∧ w'' = w') := fun w' => plain_any S w' (by omega)
  have ct := h.there.cell (i := a) (by omega)
  unfold gT at ct
  rw [hd] at ct
  rw [hT] at HP
  clear h hA hB hT hd
  unfold opV
  go_enter Try.func13, Try.ntmps13
  go_wp2_with (go_at_call 41; refine (HP.out _).mono ?_; rintro e w1 ⟨rfl, rfl⟩)
  go_quiet (fail)
  go_wp2
  refine bodyPost_ret (v := ansV 0 0 []) (by simp [results, Try.results13, go_sem, ansV] <;> rfl) rfl ⟨rfl, ?_⟩
  repeat (first | exact Fr.refl _ _ | refine Fr.alloc ?_ _ | refine Fr.setCell ?_ (.inl (Nat.le_succ _)) _ | refine Fr.drewN ?_ _ | refine Fr.drew ?_)
set_option maxHeartbeats 1000000 in
theorem owesPut_new (a : Nat) (hA : 1 ≤ a ∧ a ≤ 9) (h : GhostAt w gb t0 g0 x0 p0 s) (hS : S.length ≤ 12) (hB : 0 ≤ Bb ∧ Bb ≤ 2) (hT : textOK S = true) (hd : (s.docs a).isSome = false) : Calls Try.prog 13 #[.pointer (some ⟨gb, 0, none⟩), opV 1 a Bb C S T] w (AskPost w (if s.ids.length = 6 then 5 else 0) 0 []) := by
  obtain ⟨c0, c1, c2, c3, c4⟩ := h.cells
  have hgw := h.lt gb (.inl rfl)
  have htw := h.lt t0 (.inr (.inl rfl))
  have hqw := h.lt g0 (.inr (.inr (.inl rfl)))
  have h1 : 1 ≤ a := hA.1
  have h2 : a ≤ 9 := hA.2
  have h1' : decide (1 ≤ a) = true := by simpa using h1
  have h2' : decide (a ≤ 9) = true := by simpa using h2
  have h3 : (1 : Int) ≤ (a : Int) := by omega
  have h4 : (a : Int) ≤ 9 := by omega
  have hS' : decide ((12 : Int) < (S.length : Int)) = false := by simp; omega
  have h5' : decide (Bb < 0) = false := by simp; omega
  have h6' : decide (2 < Bb) = false := by simp; omega
  have HP : Hid (∀ w', Calls Try.prog 41 #[.string (str S)] w' fun e w'' => e = .returned (.bool (textOK S)) ∧ w'' = w') := fun w' => plain_any S w' (by omega)
  have ct := h.there.cell (i := a) (by omega)
  unfold gT at ct
  rw [hd] at ct
  rw [hT] at HP
  clear h hA hB hT hd
  unfold opV
  by_cases h6 : s.ids.length = 6
  · rw [if_pos h6]
    rw [h6] at c4
    clear h6
    go_enter Try.func13, Try.ntmps13
    go_wp2_with (go_at_call 41; refine (HP.out _).mono ?_; rintro e w1 ⟨rfl, rfl⟩)
    go_quiet (fail)
    go_wp2
    refine bodyPost_ret (v := ansV 5 0 []) (by simp [results, Try.results13, go_sem, ansV] <;> rfl) rfl ⟨rfl, ?_⟩
    repeat (first | exact Fr.refl _ _ | refine Fr.alloc ?_ _ | refine Fr.setCell ?_ (.inl (Nat.le_succ _)) _ | refine Fr.drewN ?_ _ | refine Fr.drew ?_)
  · rw [if_neg h6]
    have hn : ((s.ids.length : Int) == 6) = false := by simp; omega
    clear h6
    go_enter Try.func13, Try.ntmps13
    go_wp2_with (go_at_call 41; refine (HP.out _).mono ?_; rintro e w1 ⟨rfl, rfl⟩)
    go_quiet (fail)
    go_wp2
    refine bodyPost_ret (v := ansV 0 0 []) (by simp [results, Try.results13, go_sem, ansV] <;> rfl) rfl ⟨rfl, ?_⟩
    repeat (first | exact Fr.refl _ _ | refine Fr.alloc ?_ _ | refine Fr.setCell ?_ (.inl (Nat.le_succ _)) _ | refine Fr.drewN ?_ _ | refine Fr.drew ?_)
/-- How many of the places below j are there and in group g. -/
def nTo (s : St) (g : Int) (j : Nat) : Nat := (idsAll.filter fun i => s.inG g i && decide (i < (j : Int))).length
theorem nTo_one (s : St) (g : Int) : nTo s g 1 = 0 := by
  unfold nTo
  rw [List.length_eq_zero_iff, List.filter_eq_nil_iff]
  intro i hi
  have := (mem_idsAll i).1 hi
  simp; omega
theorem nTo_ten (s : St) (g : Int) : nTo s g 10 = s.cnt g := by
  rw [cnt_eq]; unfold nTo; congr 1
  refine List.filter_congr fun i hi => ?_
  have := (mem_idsAll i).1 hi
  have e : decide (i < ((10 : Nat) : Int)) = true := by simp; omega
  rw [e]; simp
theorem nTo_succ (s : St) (g : Int) (j : Nat) (h : 1 ≤ j ∧ j ≤ 9) : nTo s g (j + 1) = nTo s g j + (if s.inG g (j : Int) then 1 else 0) := by
  have := len_filter_upd (fun i => s.inG g i && decide (i < ((j + 1 : Nat) : Int))) (fun i => s.inG g i && decide (i < (j : Int))) (j : Int) (fun i hi => by
    have : decide (i < ((j + 1 : Nat) : Int)) = decide (i < (j : Int)) := by
      apply decide_eq_decide.2; omega
    simp only [this]) idsAll nodup_idsAll ((mem_idsAll _).2 (by omega))
  have e1 : decide ((j : Int) < ((j + 1 : Nat) : Int)) = true := by simp; omega
  have e2 : decide ((j : Int) < (j : Int)) = false := by simp
  simp only [e1, e2, Bool.and_false, Bool.and_true, Bool.false_eq_true, if_false, Nat.add_zero] at this
  exact this
theorem nTo_le (s : St) (g : Int) (j : Nat) : nTo s g j ≤ 9 := List.length_filter_le _ idsAll
set_option maxHeartbeats 1000000 in
theorem owesDrop_any (h : GhostAt w gb t0 g0 x0 p0 s) : Calls Try.prog 13 #[.pointer (some ⟨gb, 0, none⟩), opV 3 A Bb C S T] w (AskPost w 0 (s.cnt A : Int) []) := by
  have HG : Hid (GhostAt w gb t0 g0 x0 p0 s) := h
  obtain ⟨c0, c1, c2, c3, c4⟩ := h.cells
  have hgw := h.lt gb (.inl rfl)
  have htw := h.lt t0 (.inr (.inl rfl))
  have hqw := h.lt g0 (.inr (.inr (.inl rfl)))
  have HT : Hid (∀ i, i < 10 → w.cell? ⟨t0, i, none⟩ = some (.bool (s.docs (i : Int)).isSome) ∧ w.cell? ⟨g0, i, none⟩ = some (.int .i64 (s.groupOf (i : Int)))) := fun i hi => ⟨h.there.cell hi, h.group.cell hi⟩
  have HZ : Hid (nTo s A 1 = 0 ∧ nTo s A 10 = s.cnt A) := ⟨nTo_one s A, nTo_ten s A⟩
  clear h
  unfold opV
  go_enter Try.func13, Try.ntmps13
  go_wp2
  all_goals
    go_loopw [6, 7] (fun n i wr => ∃ j : Nat, (1 ≤ j ∧ j ≤ 10) ∧ i = .int .i64 j ∧ n = .int .i64 (nTo s A j) ∧ Fr No ((w.alloc (.cells #[.int .i64 3, .int .i64 A, .int .i64 Bb, .int .i64 C, .string (str S), .string (str T)] 39)).alloc (.cells #[.int .i64 0, .int .i64 0, .int .i64 0, .string (str [])] 36)) wr) (fun _ i _ => 10 - (intOf i).toNat)
    case atStart => exact ⟨1, by omega, rfl, by rw [HZ.out.1]; rfl, Fr.refl _ _⟩
    case round =>
      obtain ⟨j, hj, rfl, rfl, f⟩ := hrel
      have f0 : Fr No w wr := (((Fr.refl No w).alloc _).alloc _).trans f
      have hsz := f0.size
      have d0 := f0.cell c0 (fun h => h)
      have d1 := f0.cell c1 (fun h => h)
      have hb0 : wr.heap[w.heap.size]? = some (.cells #[.int .i64 3, .int .i64 A, .int .i64 Bb, .int .i64 C, .string (str S), .string (str T)] 39) := f.heap (by rw [Below.heap_alloc _ _ _ (by simp)]; exact heap_alloc_new _ _) (fun h => h)
      have hb1 : wr.heap[w.heap.size + 1]? = some (.cells #[.int .i64 0, .int .i64 0, .int .i64 0, .string (str [])] 36) := f.heap (by have := heap_alloc_new (w.alloc (.cells #[.int .i64 3, .int .i64 A, .int .i64 Bb, .int .i64 C, .string (str S), .string (str T)] 39)) (.cells #[.int .i64 0, .int .i64 0, .int .i64 0, .string (str [])] 36); simp only [World.size_alloc] at this; exact this) (fun h => h)
      have a1 := cell_of_heap hb0 1
      simp only [List.getElem?_toArray, List.getElem?_cons_zero, List.getElem?_cons_succ] at a1
      have hn9 := nTo_le s A j
      by_cases hlt : j ≤ 9
      · obtain ⟨e1, e2⟩ := HT.out j (by omega)
        have e1 := f0.cell e1 (fun h => h)
        have e2 := f0.cell e2 (fun h => h)
        have HS : Hid (nTo s A (j + 1) = nTo s A j + (if s.inG A (j : Int) then 1 else 0)) := nTo_succ s A j ⟨hj.1, hlt⟩
        have HF : Hid (Fr No ((w.alloc (.cells #[.int .i64 3, .int .i64 A, .int .i64 Bb, .int .i64 C, .string (str S), .string (str T)] 39)).alloc (.cells #[.int .i64 0, .int .i64 0, .int .i64 0, .string (str [])] 36)) wr) := f
        have hj1 : 1 ≤ j := hj.1
        have hl9 : (j : Int) ≤ 9 := by omega
        cases hd : s.docs (j : Int) with
        | none =>
          rw [inG_none hd] at HS
          rw [hd] at e1
          simp only [Option.isSome_none] at e1
          clear hd f0 f hb0 hb1 hj
          go_wp2
          go_quiet (fail)
          go_wp2
          go_roundw
          case rel => exact ⟨j + 1, by omega, by go_num, by rw [HS.out]; simp, HF.out.drewN _⟩
          case measure => simp [intOf]; omega
        | some d =>
          rw [inG_some hd] at HS
          rw [hd] at e1
          rw [groupOf_some hd] at e2
          simp only [Option.isSome_some] at e1
          by_cases hg : d.group = A
          · have hgb : (d.group == A) = true := by simp [hg]
            have HS2 : Hid (nTo s A (j + 1) = nTo s A j + 1) := by rw [Hid, HS.out]; simp [hg]
            clear hd f0 f hb0 hb1 hj HS hg
            go_wp2
            go_quiet (fail)
            go_wp2
            go_roundw
            case rel => exact ⟨j + 1, by omega, by go_num, by rw [HS2.out]; go_num, HF.out.drewN _⟩
            case measure => simp [intOf]; omega
          · have hgb : (d.group == A) = false := by simp [hg]
            have HS2 : Hid (nTo s A (j + 1) = nTo s A j) := by rw [Hid, HS.out]; simp [hg]
            clear hd f0 f hb0 hb1 hj HS hg
            go_wp2
            go_quiet (fail)
            go_wp2
            go_roundw
            case rel => exact ⟨j + 1, by omega, by go_num, by rw [HS2.out], HF.out.drewN _⟩
            case measure => simp [intOf]; omega
      · have hj10 : j = 10 := by omega
        subst hj10
        have q0 := cell_of_heap hb1 0
        have q1 := cell_of_heap hb1 1
        have q2 := cell_of_heap hb1 2
        have q3 := cell_of_heap hb1 3
        have fz := frozen_of_heap hb1
        have hac := ans_cells hb1
        have HF : Hid (Fr No w wr) := f0
        clear f f0 hb0 hb1
        go_wp2
        refine bodyPost_ret (v := ansV 0 (s.cnt A : Int) []) (by rw [← HZ.out.2]; simp [results, Try.results13, go_sem, ansV, hac] <;> rfl) rfl ⟨rfl, ?_⟩
        have f1 := HF.out
        repeat (first | exact f1 | refine Fr.setCell ?_ (.inl (Nat.le_succ _)) _)
end
end Go.Proofs.Qxb6500357a
