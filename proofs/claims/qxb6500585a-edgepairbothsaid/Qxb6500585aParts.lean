import Derived.Test.Qxb6500585aLone
namespace Go.Proofs.Qxb6500585a
open Go.RowKit Go.CommN Go.Conc

set_option maxHeartbeats 1000000 in
theorem part_any (s : ByteArray) (n1 n2 n3 : Nat) (hsz : s.size = n1 + n2 + n3 + 2) (hb : s.size ≤ 1000)
    (hs : ∀ i (h : i < s.size), s[i].toNat = 59 ↔ (i = n1 ∨ i = n1 + n2 + 1)) (w : World) :
    Calls Try.prog 20 #[.string s, .int .i64 2] w fun e w' => e = .returned (.string (s.extract (n1 + n2 + 2) s.size)) ∧ w' = w := by
  have HZ : Hid (s.size = n1 + n2 + n3 + 2) := hsz
  clear hsz
  go_enter Try.func20, Try.ntmps20
  go_wp2
  go_loop [1, 5, 6] (fun k lo i => ∃ j : Nat, j ≤ s.size ∧ i = .int .i64 j ∧
      ((j ≤ n1 ∧ k = .int .i64 2 ∧ lo = .int .i64 0) ∨ (n1 < j ∧ j ≤ n1 + n2 + 1 ∧ k = .int .i64 1 ∧ lo = .int .i64 ((n1 : Int) + 1)) ∨ (n1 + n2 + 1 < j ∧ k = .int .i64 0 ∧ lo = .int .i64 ((n1 : Int) + n2 + 2))))
    (fun _ _ i => s.size + 1 - (intOf i).toNat)
  case atStart => exact ⟨0, Nat.zero_le _, rfl, .inl ⟨Nat.zero_le _, rfl, rfl⟩⟩
  case round =>
    obtain ⟨j, hj, rfl, hk⟩ := hrel
    by_cases hlt : j < s.size
    · have hjs := hs j hlt
      have hbj := s[j].toNat_lt
      have hne0 : ((j : Int) == (s.size : Int)) = false := by simp; omega
      clear hs
      by_cases hsep : j = n1 ∨ j = n1 + n2 + 1
      · have hc : (((s[j].toNat : Nat) : Int) == 59) = true := by have := hjs.2 hsep; simp; omega
        clear hjs
        rcases hk with ⟨h1, rfl, rfl⟩ | ⟨h1, h2, rfl, rfl⟩ | ⟨h1, rfl, rfl⟩
        · have hjn : Hid (j = n1) := (by omega : j = n1)
          go_wp2
          go_round
          case rel => exact ⟨j + 1, by omega, by go_num, .inr (.inl ⟨by omega, by omega, rfl, by rw [hjn.out]⟩)⟩
          case measure => simp [intOf]; omega
        · have hjn : Hid (j = n1 + n2 + 1) := (by omega : j = n1 + n2 + 1)
          go_wp2
          go_round
          case rel => exact ⟨j + 1, by omega, by go_num, .inr (.inr ⟨by omega, rfl, by rw [hjn.out]; go_num⟩)⟩
          case measure => simp [intOf]; omega
        · omega
      · have hc : (((s[j].toNat : Nat) : Int) == 59) = false := by
          have : ¬ s[j].toNat = 59 := fun e => hsep (hjs.1 e)
          simp; omega
        clear hjs
        go_wp2
        go_round
        case rel =>
          refine ⟨j + 1, by omega, by go_num, ?_⟩
          rcases hk with ⟨h1, rfl, rfl⟩ | ⟨h1, h2, rfl, rfl⟩ | ⟨h1, rfl, rfl⟩
          · exact .inl ⟨by omega, rfl, rfl⟩
          · exact .inr (.inl ⟨by omega, by omega, rfl, rfl⟩)
          · exact .inr (.inr ⟨by omega, rfl, rfl⟩)
        case measure => simp [intOf]; omega
    · have hjs : j = s.size := by omega
      have hz := HZ.out
      rcases hk with ⟨h1, rfl, rfl⟩ | ⟨h1, h2, rfl, rfl⟩ | ⟨h1, rfl, rfl⟩
      · omega
      · omega
      · have hle : (n1 : Int) + n2 + 2 ≤ s.size := by omega
        have HJ : Hid (j = s.size) := hjs
        have he : ((j : Int) == (s.size : Int)) = true := by simp; omega
        have hsl : ∀ wx, (Instr.slice 9 (.string s) (some (.int .i64 ((n1 : Int) + n2 + 2))) (some (.int .i64 (j : Int))) none).run Try.prog wx = .ok (.string (s.extract (n1 + n2 + 2) s.size)) wx := by
          intro wx
          rw [run_slice_string (P := Try.prog) wx 9 s .i64 .i64 ((n1 : Int) + n2 + 2) j Try.underlying9 (by omega) (by omega) (by omega)]
          rw [show ((n1 : Int) + n2 + 2).toNat = n1 + n2 + 2 from by omega, show (j : Int).toNat = s.size from by omega]
        clear hjs hz hs
        go_wp2
        go_ret
        exact ⟨rfl, rfl⟩
theorem count_snoc (l : List UInt8) (c : UInt8) : (l ++ [c]).count 48 = l.count 48 + if c = 48 then 1 else 0 := by
  by_cases h : c = 48 <;> simp [h]

set_option maxHeartbeats 1000000 in
theorem zeros_any (o : List UInt8) (hb : o.length ≤ 1000) (ho : ∀ c ∈ o, c = 48 ∨ c = 49) (w : World) :
    Calls Try.prog 27 #[.string ⟨o.toArray⟩] w fun e w' => e = .returned (.int .i64 (o.count 48)) ∧ w' = w := by
  have hsize : (⟨o.toArray⟩ : ByteArray).size = o.length := by simp [ByteArray.size]
  have hidx : ∀ j (h : j < (⟨o.toArray⟩ : ByteArray).size), (⟨o.toArray⟩ : ByteArray)[j] = o[j]'(by rw [← hsize]; exact h) := fun j h => rfl
  have HO : Hid (∀ k, k < o.length → ∃ c, (c = 48 ∨ c = 49) ∧ o[k]? = some c ∧ (o.take (k + 1)).count 48 = (o.take k).count 48 + if c = 48 then 1 else 0) := by
    intro k hk
    refine ⟨o[k], ho _ (List.getElem_mem hk), by simp [hk], ?_⟩
    rw [List.take_succ_eq_append_getElem hk, count_snoc]
  generalize hs : (⟨o.toArray⟩ : ByteArray) = s at *
  have HS : Hid (∀ k (h : k < s.size), o[k]? = some s[k]) := by
    intro k h
    rw [hidx k h]; simp
  have hcl : ∀ k, (o.take k).count 48 ≤ k := fun k => by have := List.count_le_length (a := (48 : UInt8)) (l := o.take k); have h2 := List.length_take_le k o; omega
  have HZ : Hid (s.size = o.length) := hsize
  have hb' : s.size ≤ 1000 := by omega
  clear hsize hidx hs ho
  go_enter Try.func27, Try.ntmps27
  go_wp2
  go_loop [3, 4] (fun n i => ∃ j : Nat, j ≤ s.size ∧ i = .int .i64 j ∧ n = .int .i64 ((o.take j).count 48 : Nat)) (fun _ i => s.size - (intOf i).toNat)
  case atStart => exact ⟨0, Nat.zero_le _, rfl, rfl⟩
  case round =>
    obtain ⟨j, hj, rfl, rfl⟩ := hrel
    by_cases hlt : j < s.size
    · obtain ⟨c, hc, hoc, hcnt⟩ := HO.out j (by have := HZ.out; omega)
      have hsc : s[j] = c := by have := (HS.out j hlt).symm.trans hoc; simpa using this
      have hclj := hcl j
      have HC : Hid ((o.take (j + 1)).count 48 = (o.take j).count 48 + if c = 48 then 1 else 0) := hcnt
      clear hcnt hoc hcl
      generalize (o.take j).count 48 = m at hclj HC
      rcases hc with rfl | rfl
      · have hv : (((s[j].toNat : Nat) : Int) == 48) = true := by rw [hsc]; rfl
        clear hsc
        go_wp2
        go_round
        case rel => exact ⟨j + 1, by omega, by go_num, by rw [HC.out]; go_num⟩
        case measure => simp [intOf]; omega
      · have hv : (((s[j].toNat : Nat) : Int) == 48) = false := by rw [hsc]; rfl
        have hv' : (((s[j].toNat : Nat) : Int) != 49) = false := by rw [hsc]; rfl
        clear hsc
        go_wp2
        go_round
        case rel => exact ⟨j + 1, by omega, by go_num, by rw [HC.out]; rfl⟩
        case measure => simp [intOf]; omega
    · have hjs : Hid (j = s.size) := (by omega : j = s.size)
      go_wp2
      go_ret
      exact ⟨by simp [List.take_of_length_le (show o.length ≤ j by have := HZ.out; have := hjs.out; omega)], rfl⟩
end Go.Proofs.Qxb6500585a
