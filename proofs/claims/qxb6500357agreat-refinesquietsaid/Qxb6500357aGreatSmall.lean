import Derived.Test.Qxb6500357aGreatRows
import Derived.Test.Qxb6500357aGreatRange
import Derived.Test.Qxb6500357aGreatPlain
import Derived.Deep.RegionHeld3
namespace Go.Proofs.Qxb6500357aGreat
open Go.RowKit Go.Tag
set_option linter.unusedVariables false
set_option linter.unusedSimpArgs false
attribute [local simp] str_size
attribute [local go_sem] str_size

theorem goodId_any (n : Int) (w : World) : Calls Tryz.prog 65 #[.int .i64 n] w fun e w' => e = .returned (.bool (decide (1 ≤ n ∧ n ≤ 9))) ∧ w' = w := by
  go_enter Tryz.func65, Tryz.ntmps65
  go_wp2
  all_goals (go_ret; exact ⟨by simp; try omega, rfl⟩)

theorem wrap_i64 (n : Int) (h0 : -9223372036854775808 ≤ n) (h1 : n ≤ 9223372036854775807) : IntKind.i64.wrap n = n := by
  simp [IntKind.wrap, IntKind.bits, IntKind.signed]; omega
theorem wrap_u8 (n : Int) (h0 : 0 ≤ n) (h1 : n ≤ 255) : IntKind.u8.wrap n = n := by
  simp [IntKind.wrap, IntKind.bits, IntKind.signed]; omega
def chr (c : Int) : UInt8 := UInt8.ofNat c.toNat
theorem chr_dg (n : Nat) : chr (48 + (n : Int)) = dg n := by unfold chr dg; congr 1
theorem chr_dg10 (n : Nat) : chr (48 + (n : Int) % 10) = dg (n % 10) := by unfold chr dg; congr 1
theorem conv_byte (W : World) (b : Nat) (c : Int) (h : W.cell? ⟨b, 0, none⟩ = some (.int .u8 c)) : (convert 118 9 (.slice (some ⟨b, 0, none⟩) 1 1)).run Tryz.prog W = .ok (.string (str [chr c])) W := by
  rw [run_convert_bytes_string (P := Tryz.prog) _ 118 9 5 _ _ _ Tryz.underlying118 Tryz.underlying5 Tryz.underlying9]
  rw [run_bytesToString _ _ _ _ [c] (by simp [go_sem, h])]
  rfl

set_option maxHeartbeats 400000 in
theorem itoa_small (n : Nat) (hn : n < 10) (w : World) : Calls Tryz.prog 48 #[.int .i64 n] w fun e w' => e = .returned (.string (str [dg n])) ∧ Fr No w w' := by
  have h1 : (n : Int) < 10 := by omega
  have hcv := conv_byte
  go_enter Tryz.func48, Tryz.ntmps48
  go_wp2
  go_ret
  exact ⟨by rw [← chr_dg]; rfl, (Fr.refl _ _).alloc _⟩

theorem fr_cells {w w1 : World} (h : Fr No w w1) : ∀ b o, b < w.heap.size → w1.cell? ⟨b, o, none⟩ = w.cell? ⟨b, o, none⟩ := fun b o hb => World.cell?_of_block (w := w) (h.block b hb (fun f => f))

set_option maxHeartbeats 1000000 in
theorem itoaF_any (d : Nat) : ∀ (n : Nat) (hn : n < 10 ^ d) (hd : d ≤ 18) (w : World), Calls Tryz.prog 48 #[.int .i64 n] w fun e w' => e = .returned (.string (str (itoaF (d + 1) n))) ∧ Fr No w w' := by
  induction d with
  | zero =>
    intro n hn hd w
    have := itoa_small n (by simp at hn; omega) w
    rw [itoaF, if_pos (by simp at hn; omega)]
    exact this
  | succ d ih =>
    intro n hn hd w
    rw [itoaF]
    by_cases h10 : n < 10
    · rw [if_pos h10]; exact itoa_small n h10 w
    · rw [if_neg h10]
      have hI : Hid (∀ w, Calls Tryz.prog 48 #[.int .i64 ((n : Int) / 10)] w fun e w' => e = .returned (.string (str (itoaF (d + 1) (n / 10)))) ∧ Fr No w w') := fun w => by
        have := ih (n / 10) (by rw [Nat.div_lt_iff_lt_mul (by omega)]; rw [Nat.pow_succ] at hn; exact hn) (by omega) w
        rw [show ((n / 10 : Nat) : Int) = (n : Int) / 10 by omega] at this
        exact this
      have hlen := itoaF_len (d + 1) (n / 10)
      have hlen' : (itoaF (d + 1) (n / 10)).length ≤ 100 := by omega
      generalize itoaF (d + 1) (n / 10) = pre at hI hlen hlen' ⊢
      clear hlen
      have hb : (n : Int) ≤ 9223372036854775807 := by
        have : 10 ^ (d + 1) ≤ 10 ^ 18 := Nat.pow_le_pow_right (by omega) hd
        omega
      have h10' : ¬ (n : Int) < 10 := by omega
      have hcv := conv_byte
      clear ih hn hd h10
      have hw1 : IntKind.i64.wrap ((n : Int) / 10) = (n : Int) / 10 := wrap_i64 _ (by omega) (by omega)
      have hw2 : IntKind.i64.wrap (48 + (n : Int) % 10) = 48 + (n : Int) % 10 := wrap_i64 _ (by omega) (by omega)
      have hw3 : IntKind.u8.wrap (48 + (n : Int) % 10) = 48 + (n : Int) % 10 := wrap_u8 _ (by omega) (by omega)
      go_enter Tryz.func48, Tryz.ntmps48
      go_wp2
      go_region_with (go_at_call 48; refine (hI.out _).mono ?_; rintro e w1 ⟨rfl, hfr⟩; have hcc := fr_cells hfr)
      all_goals
        have hfr0 : Fr No w w1 := Fr.trans (by repeat (first | exact Fr.refl _ _ | apply Fr.drew | apply Fr.alloc)) hfr
        clear hfr hcc
        go_wp2
        go_ret
        first
          | exact ⟨by rw [← chr_dg10, ← str_append]; rfl, hfr0⟩
          | exact ⟨by rw [← chr_dg10, ← str_append]; rfl, hfr0.alloc _⟩

theorem itoa_any (n : Int) (h0 : 0 ≤ n) (h1 : n < 1000000000000000000) (w : World) : Calls Tryz.prog 48 #[.int .i64 n] w fun e w' => e = .returned (.string (str (itoa n.toNat))) ∧ Fr No w w' := by
  obtain ⟨m, rfl⟩ := Int.eq_ofNat_of_zero_le h0
  have hm : m < 10 ^ 18 := by omega
  have := itoaF_any 18 m hm (by omega) w
  have e : itoaF 19 m = itoa m := itoaF_big 18 m hm
  rw [e] at this
  exact this
end Go.Proofs.Qxb6500357aGreat
