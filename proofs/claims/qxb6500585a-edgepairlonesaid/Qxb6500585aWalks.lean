import Derived.Test.Qxb6500585aRows
import Derived.Test.Qxb6500585aComm
import Derived.Deep.QuietTactic
import Derived.BigQuiet
namespace Go.Proofs.Qxb6500585a
open Go.RowKit Go.CommN Go.Conc

/-! ### New -/
theorem info3 : (Try.prog.info? 3).map (fun i => (i.zero, i.size, i.bytes)) = some (some (.int .i64 0), 1, 8) := by kernel_rfl
theorem mkChan0 (n : Nat) (hn : n ≤ 100) (w : World) : (Instr.makeChan 46 (.int .i64 n)).run Try.prog w = .ok (.chan (some w.heap.size)) (w.alloc (.chan n #[] false 0 0 false)) := by
  obtain ⟨i, hi, _, _, hb⟩ := info_parts info3
  simpa using run_makeChan (P := Try.prog) (w := w) Try.underlying46 hi .i64 n (by omega) (by rw [hb]; omega)

theorem mkChan4 (w : World) : (Instr.makeChan 46 (.int .i64 4)).run Try.prog w = .ok (.chan (some w.heap.size)) (w.alloc (.chan 4 #[] false 0 0 false)) := mkChan0 4 (by omega) w
theorem mkChan6 (w : World) : (Instr.makeChan 46 (.int .i64 6)).run Try.prog w = .ok (.chan (some w.heap.size)) (w.alloc (.chan 6 #[] false 0 0 false)) := mkChan0 6 (by omega) w
def newWorld (w : World) : World := (w.alloc (.chan 4 #[] false 0 0 false)).alloc (.cells #[.slice none 0 0, .slice none 0 0, .slice none 0 0, .chan (some w.heap.size)] 48)

theorem new_any (w : World) : Calls Try.prog 17 #[] w fun e w' => e = .returned (.pointer (some ⟨w.heap.size + 1, 0, none⟩)) ∧ w' = newWorld w := by
  have hmc := mkChan4
  unfold newWorld
  go_enter Try.func17, Try.ntmps17
  go_wp2
  go_ret
  exact ⟨by simp, rfl⟩

/-! ### Hex2, text -/
theorem str_append (a b : List UInt8) : (⟨a.toArray⟩ : ByteArray) ++ ⟨b.toArray⟩ = ⟨(a ++ b).toArray⟩ := by
  apply ByteArray.ext
  simp [ByteArray.data_append]
def digits : ByteArray := ⟨#[48, 49, 50, 51, 52, 53, 54, 55, 56, 57, 97, 98, 99, 100, 101, 102]⟩
def hexd (n : Nat) : UInt8 := digits.data.getD n 0
def hex2 (v : Int) : List UInt8 := [hexd (v.toNat / 16), hexd (v.toNat % 16)]

theorem and15_fin : ∀ n : Fin 256, bits .and .i64 (n.val : Int) 15 = ((n.val % 16 : Nat) : Int) := by decide +kernel
theorem and15 (v : Int) (h0 : 0 ≤ v) (h1 : v ≤ 255) : bits .and .i64 v 15 = ((v.toNat % 16 : Nat) : Int) := by
  have := and15_fin ⟨v.toNat, by omega⟩
  rwa [show ((v.toNat : Nat) : Int) = v by omega] at this
theorem and15' (v : Int) (h0 : 0 ≤ v) (h1 : v ≤ 255) : bits .and .i64 (v / 16) 15 = ((v.toNat / 16 : Nat) : Int) := by
  rw [and15 (v / 16) (by omega) (by omega)]; omega

theorem digit_fin : ∀ p : Fin 16, (digits.extract p.val (p.val + 1)).data = #[hexd p.val] := by decide +kernel
theorem slice_digit (p : Nat) (hp : p < 16) (w : World) : (Instr.slice 9 (.string ⟨#[48, 49, 50, 51, 52, 53, 54, 55, 56, 57, 97, 98, 99, 100, 101, 102]⟩) (some (.int .i64 p)) (some (.int .i64 ((p : Int) + 1))) none).run Try.prog w = .ok (.string ⟨#[hexd p]⟩) w := by
  rw [run_slice_string (P := Try.prog) w 9 _ .i64 .i64 p ((p : Int) + 1) Try.underlying9 (by omega) (by omega) (by simp [ByteArray.size]; omega)]
  have := digit_fin ⟨p, hp⟩
  simp only at this
  rw [show ((p : Int)).toNat = p from by omega, show ((p : Int) + 1).toNat = p + 1 from by omega, ← this]
  rfl

set_option maxHeartbeats 400000 in
theorem hex2_any (v : Int) (h0 : 0 ≤ v) (h1 : v ≤ 255) (w : World) : Calls Try.prog 31 #[.int .i64 v] w fun e w' => e = .returned (.string ⟨(hex2 v).toArray⟩) ∧ ∃ n, w' = w.drewN n := by
  have ha := and15 v h0 h1
  have hb := and15' v h0 h1
  have hp : v.toNat / 16 < 16 := by omega
  have hq : v.toNat % 16 < 16 := by omega
  unfold hex2
  generalize v.toNat / 16 = p at *
  generalize v.toNat % 16 = q at *
  have hp' : (p : Int) < 16 := by omega
  have hq' : (q : Int) < 16 := by omega
  have hsp := slice_digit p hp
  have hsq := slice_digit q hq
  go_enter Try.func31, Try.ntmps31
  go_wp2
  go_quiet (fail)
  go_wp2
  go_ret
  exact ⟨congrArg (fun b => Ending.returned (.string b)) (str_append _ _), nq, rfl⟩

def hexs (l : List Int) : List UInt8 := l.flatMap hex2
theorem hexs_snoc (l : List Int) (v : Int) : hexs (l ++ [v]) = hexs l ++ hex2 v := by simp [hexs]
theorem hexs_len (l : List Int) : (hexs l).length = 2 * l.length := by
  induction l with
  | nil => rfl
  | cons a l ih => simp only [hexs, List.flatMap_cons, List.length_append, List.length_cons] at ih ⊢; rw [ih]; simp [hex2]; omega
theorem take_snoc (l : List Int) (k : Nat) (h : k < l.length) : l.take (k + 1) = l.take k ++ [l.getD k 0] := by
  rw [List.take_succ_eq_append_getElem h]; simp [List.getD, h]

set_option maxHeartbeats 400000 in
theorem text_any (ao : Option Addr) (n cap : Nat) (l : List Int) (hn : n = l.length) (hn6 : n ≤ 100) (hl : ∀ j, 0 ≤ l.getD j 0 ∧ l.getD j 0 ≤ 255) (w : World)
    (hc : ∀ j, j < n → ∃ b off, ao = some ⟨b, off, none⟩ ∧ w.cell? ⟨b, off + j, none⟩ = some (.int .i64 (l.getD j 0))) :
    Calls Try.prog 30 #[.slice ao n cap] w fun e w' => e = .returned (.string ⟨(hexs l).toArray⟩) ∧ ∃ m, w' = w.drewN m := by
  have HN : Hid (n = l.length) := hn
  clear hn
  go_enter Try.func30, Try.ntmps30
  go_wp2
  go_loopw [3, 9] (fun t k wr => ∃ j m : Nat, j ≤ n ∧ k = .int .i64 j ∧ t = .string ⟨(hexs (l.take j)).toArray⟩ ∧ wr = w.drewN m) (fun _ k _ => n - (intOf k).toNat)
  case atStart => exact ⟨0, 0, Nat.zero_le _, rfl, rfl, rfl⟩
  case round =>
    obtain ⟨j, m, hj, rfl, rfl, rfl⟩ := hrel
    by_cases hlt : j < n
    · obtain ⟨b, off, rfl, hcell⟩ := hc j hlt
      have hv := hl j
      have HS : Hid (hexs (l.take (j + 1)) = hexs (l.take j) ++ hex2 (l.getD j 0)) := by
        show hexs (l.take (j + 1)) = _
        rw [take_snoc l j (by have := HN.out; omega), hexs_snoc]
      generalize l.getD j 0 = v at hcell hv HS
      obtain ⟨hv0, hv1⟩ := hv
      have hbd : (hexs (List.take j l)).length + (hex2 v).length ≤ 1000 := by rw [hexs_len]; simp [hex2]; omega
      clear hc hl
      go_wp2_with (go_at_call 31; refine (hex2_any v hv0 hv1 _).mono ?_; rintro e w' ⟨rfl, m', rfl⟩)
      go_roundw
      case rel => exact ⟨j + 1, m + m', by omega, by go_num, by rw [HS.out, ← str_append], by simp⟩
      case measure => simp [intOf]; omega
    · have hjn : j = n := by omega
      subst hjn
      go_wp2
      go_ret
      exact ⟨by simp [HN.out], m, rfl⟩
end Go.Proofs.Qxb6500585a
