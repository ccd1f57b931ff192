import Derived.Test.Qxb6500357aGreatSmall
namespace Go.Proofs.Qxb6500357aGreat
open Go.RowKit Go.Tag
set_option linter.unusedVariables false
set_option linter.unusedSimpArgs false
attribute [local simp] str_size
attribute [local go_sem] str_size

theorem frNo_cell {w w' : World} (h : Fr No w w') {b o : Nat} {v : Value} (hc : w.cell? ⟨b, o, none⟩ = some v) : w'.cell? ⟨b, o, none⟩ = some v := h.cell hc (fun f => f)

theorem ret_str {a b : List UInt8} (h : a = b) : Ending.returned (.string (str a)) = .returned (.string (str b)) := by rw [h]

set_option maxHeartbeats 400000 in
theorem ints_any (v : Value) (l : List Int) (w : World) (hv : Sl w v (l.map (Value.int .i64))) (hl : ∀ n ∈ l, 0 ≤ n ∧ n < 1000000000000000000) (hlen : l.length ≤ 1000) :
    Calls Tryz.prog 46 #[v] w fun e w' => e = .returned (.string (str (ints l))) ∧ Fr No w w' := by
  obtain ⟨ao, cap, rfl, hc⟩ := hv
  have hn : l.length = (l.map (Value.int .i64)).length := by simp
  rw [← hn]
  have HN : Hid (∀ n, n = l.length → l.take n = l) := fun n h => by rw [h]; exact List.take_length
  obtain ⟨n, hnn⟩ : ∃ n, n = l.length := ⟨_, rfl⟩
  have HL : Hid (n = l.length) := hnn
  rw [← hnn] at hlen
  rw [← hnn]
  clear hn hnn
  go_enter Tryz.func46, Tryz.ntmps46
  go_wp2
  go_loopw [3, 4] (fun t k wr => ∃ j : Nat, j ≤ n ∧ k = .int .i64 j ∧ t = .string (str (ints (l.take j))) ∧ Fr No w wr) (fun _ k _ => n - (intOf k).toNat)
  case atStart => exact ⟨0, Nat.zero_le _, rfl, rfl, Fr.refl _ _⟩
  case round =>
    obtain ⟨j, hj, rfl, rfl, hfr⟩ := hrel
    by_cases hlt : j < n
    · have hjl : j < l.length := by rw [← HL.out]; exact hlt
      obtain ⟨b, off, rfl, hcell0⟩ := hc j (.int .i64 l[j]) (by simp [hjl])
      have hcell := frNo_cell hfr hcell0
      have hv := hl l[j] (List.getElem_mem hjl)
      have HS : Hid (ints (l.take (j + 1)) = ints (l.take j) ++ itoa l[j].toNat ++ [32]) := by
        show _ = _
        rw [take_snoc l j hjl, ints_snoc]
      generalize l[j] = x at hcell hv HS
      obtain ⟨hv0, hv1⟩ := hv
      have hb1 : (ints (l.take j)).length ≤ 21000 := by have := ints_len (l.take j); simp at this; omega
      have hb2 := itoa_len x.toNat
      clear hc hl hcell0 HN
      go_wp2_with (go_at_call 48; refine (itoa_any x hv0 hv1 _).mono ?_; rintro e w' ⟨rfl, hfr'⟩)
      go_roundw
      case rel => exact ⟨j + 1, by omega, by go_num, by rw [HS.out, ← str_append, ← str_append]; rfl, hfr.trans hfr'⟩
      case measure => simp [intOf]; omega
    · have hjn : Hid (j = n) := (by omega : j = n)
      go_wp2
      go_ret
      exact ⟨ret_str (by rw [HN.out j (hjn.out.trans HL.out)]), hfr⟩
set_option maxHeartbeats 400000 in
theorem strs_any (v : Value) (l : List (List UInt8)) (w : World) (hv : Sl w v (l.map fun s => Value.string (str s))) (hl : ∀ n ∈ l, n.length ≤ 1000) (hlen : l.length ≤ 1000) :
    Calls Tryz.prog 62 #[v] w fun e w' => e = .returned (.string (str (strs l))) ∧ Fr No w w' := by
  obtain ⟨ao, cap, rfl, hc⟩ := hv
  have hn : l.length = (l.map fun s => Value.string (str s)).length := by simp
  rw [← hn]
  have HN : Hid (∀ n, n = l.length → l.take n = l) := fun n h => by rw [h]; exact List.take_length
  obtain ⟨n, hnn⟩ : ∃ n, n = l.length := ⟨_, rfl⟩
  have HL : Hid (n = l.length) := hnn
  rw [← hnn] at hlen
  rw [← hnn]
  clear hn hnn
  go_enter Tryz.func62, Tryz.ntmps62
  go_wp2
  go_loopw [3, 4] (fun t k wr => ∃ j : Nat, j ≤ n ∧ k = .int .i64 j ∧ t = .string (str (strs (l.take j))) ∧ Fr No w wr) (fun _ k _ => n - (intOf k).toNat)
  case atStart => exact ⟨0, Nat.zero_le _, rfl, rfl, Fr.refl _ _⟩
  case round =>
    obtain ⟨j, hj, rfl, rfl, hfr⟩ := hrel
    by_cases hlt : j < n
    · have hjl : j < l.length := by rw [← HL.out]; exact hlt
      obtain ⟨b, off, rfl, hcell0⟩ := hc j (.string (str l[j])) (by simp [hjl])
      have hcell := frNo_cell hfr hcell0
      have hv := hl l[j] (List.getElem_mem hjl)
      have HS : Hid (strs (l.take (j + 1)) = strs (l.take j) ++ l[j] ++ [32]) := by
        show _ = _
        rw [take_snoc l j hjl, strs_snoc]
      generalize l[j] = x at hcell hv HS
      have hb1 : (strs (l.take j)).length ≤ 1001000 := strs_len l hl j (by rw [← HL.out]; exact hlen)
      clear hc hl hcell0 HN
      go_wp2
      go_roundw
      case rel => exact ⟨j + 1, by omega, by go_num, by rw [HS.out, ← str_append, ← str_append]; rfl, hfr⟩
      case measure => simp [intOf]; omega
    · have hjn : Hid (j = n) := (by omega : j = n)
      go_wp2
      go_ret
      exact ⟨ret_str (by rw [HN.out j (hjn.out.trans HL.out)]), hfr⟩

/-- A slice of counts. -/
def SlC (w : World) (v : Value) (l : List (Int × Int)) : Prop :=
  ∃ ao cap, v = .slice ao l.length cap ∧ ∀ (j : Nat) p, l[j]? = some p → ∃ g o, ao = some ⟨g, o, none⟩ ∧ w.cell? ⟨g, o + j * 2, none⟩ = some (.int .i64 p.1) ∧ w.cell? ⟨g, o + j * 2 + 1, none⟩ = some (.int .i64 p.2)

set_option maxHeartbeats 400000 in
theorem counts_any (v : Value) (l : List (Int × Int)) (w : World) (hv : SlC w v l) (hl : ∀ n ∈ l, (0 ≤ n.1 ∧ n.1 < 1000000000000000000) ∧ (0 ≤ n.2 ∧ n.2 < 1000000000000000000)) (hlen : l.length ≤ 1000) :
    Calls Tryz.prog 59 #[v] w fun e w' => e = .returned (.string (str (counts l))) ∧ Fr No w w' := by
  obtain ⟨ao, cap, rfl, hc⟩ := hv
  have HN : Hid (∀ n, n = l.length → l.take n = l) := fun n h => by rw [h]; exact List.take_length
  obtain ⟨n, hnn⟩ : ∃ n, n = l.length := ⟨_, rfl⟩
  have HL : Hid (n = l.length) := hnn
  rw [← hnn] at hlen
  rw [← hnn]
  clear hnn
  go_enter Tryz.func59, Tryz.ntmps59
  go_wp2
  go_loopw [3, 4] (fun t k wr => ∃ j : Nat, j ≤ n ∧ k = .int .i64 j ∧ t = .string (str (counts (l.take j))) ∧ Fr No w wr) (fun _ k _ => n - (intOf k).toNat)
  case atStart => exact ⟨0, Nat.zero_le _, rfl, rfl, Fr.refl _ _⟩
  case round =>
    obtain ⟨j, hj, rfl, rfl, hfr⟩ := hrel
    by_cases hlt : j < n
    · have hjl : j < l.length := by rw [← HL.out]; exact hlt
      obtain ⟨b, off, rfl, hcell1, hcell2⟩ := hc j l[j] (by simp [hjl])
      have hv := hl l[j] (List.getElem_mem hjl)
      have HS : Hid (counts (l.take (j + 1)) = counts (l.take j) ++ itoa l[j].1.toNat ++ [58] ++ itoa l[j].2.toNat ++ [32]) := by
        show _ = _
        rw [take_snoc l j hjl, counts_snoc]
      generalize l[j] = p at hcell1 hcell2 hv HS
      obtain ⟨x, y⟩ := p
      obtain ⟨⟨hx0, hx1⟩, hy0, hy1⟩ := hv
      simp only at hcell1 hcell2 HS hx0 hx1 hy0 hy1
      have hcr1 := frNo_cell hfr hcell1
      have hcr2 := frNo_cell hfr hcell2
      have hb1 : (counts (l.take j)).length ≤ 42000 := by have := counts_len (l.take j); simp at this; omega
      have hb2 := itoa_len x.toNat
      have hb3 := itoa_len y.toNat
      clear hc hl HN
      go_wp2_with fail
      refine (itoa_any x hx0 hx1 _).mono ?_
      rintro e w1 ⟨rfl, hfr1⟩
      have hcs2 := frNo_cell hfr1 hcr2
      go_wp2_with fail
      refine (itoa_any y hy0 hy1 _).mono ?_
      rintro e w2 ⟨rfl, hfr2⟩
      go_wp2
      go_roundw
      case rel => exact ⟨j + 1, by omega, by go_num, by rw [HS.out, ← str_append, ← str_append, ← str_append, ← str_append]; rfl, (hfr.trans hfr1).trans hfr2⟩
      case measure => simp [intOf]; omega
    · have hjn : Hid (j = n) := (by omega : j = n)
      go_wp2
      go_ret
      exact ⟨ret_str (by rw [HN.out j (hjn.out.trans HL.out)]), hfr⟩

/-! ### TextOK -/
theorem textOK_snoc (l : List UInt8) (c : UInt8) : textOK (l ++ [c]) = (textOK l && (c == 32 || (decide (97 ≤ c.toNat) && decide (c.toNat ≤ 122)))) := by simp [textOK]

set_option maxHeartbeats 400000 in
theorem textOK_any (l : List UInt8) (w : World) (hlen : l.length ≤ 1000) : Calls Tryz.prog 100 #[.string (str l)] w fun e w' => e = .returned (.bool (textOK l)) ∧ w' = w := by
  have HG : Hid (∀ j (h : j < (str l).size), ∃ c : UInt8, (str l)[j] = c ∧ textOK (l.take (j + 1)) = (textOK (l.take j) && (c == 32 || (decide (97 ≤ c.toNat) && decide (c.toNat ≤ 122)))) ∧ (textOK (l.take (j + 1)) = false → textOK l = false)) := by
    intro j h
    have hj : j < l.length := by rw [← str_size]; exact h
    refine ⟨l[j], str_get l j h, by rw [take_snoc l j hj, textOK_snoc], fun hf => ?_⟩
    have : textOK (l.take (j + 1)) = true ∨ textOK l = false := by
      cases ht : textOK l with
      | false => exact .inr rfl
      | true => left; unfold textOK at ht ⊢; rw [List.all_eq_true] at ht ⊢; exact fun x hx => ht x (List.mem_of_mem_take hx)
    rcases this with h | h
    · rw [h] at hf; cases hf
    · exact h
  have HN : Hid (∀ n, n = (str l).size → l.take n = l) := fun n h => by rw [h, str_size]; exact List.take_length
  have hb : (str l).size ≤ 1000 := by rw [str_size]; exact hlen
  have H0 : Hid (textOK (l.take 0) = true) := rfl
  generalize str l = s at *
  go_enter Tryz.func100, Tryz.ntmps100
  go_wp2
  go_loop [3] (fun k => ∃ j : Nat, j ≤ s.size ∧ k = .int .i64 j ∧ Hid (textOK (l.take j) = true)) (fun k => s.size - (intOf k).toNat)
  case atStart => exact ⟨0, Nat.zero_le _, rfl, H0⟩
  case round =>
    obtain ⟨j, hj, rfl, hok⟩ := hrel
    by_cases hlt : j < s.size
    · obtain ⟨c, hc, hstep, hbad⟩ := HG.out j hlt
      have HS : Hid (textOK (l.take (j + 1)) = (textOK (l.take j) && (c == 32 || (decide (97 ≤ c.toNat) && decide (c.toNat ≤ 122))))) := hstep
      have HB : Hid (textOK (l.take (j + 1)) = false → textOK l = false) := hbad
      have hcl := c.toNat_lt
      clear hstep hbad HG
      by_cases h32 : c.toNat = 32
      · have hv : (((s[j].toNat : Nat) : Int) != 32) = false := by rw [hc]; simp; omega
        have HK : Hid (textOK (l.take (j + 1)) = true) := by
          show _ = _
          rw [HS.out, hok.out]
          have : c = 32 := by apply UInt8.toNat_inj.1; exact h32
          simp [this]
        clear hc
        go_wp2
        go_round
        case rel => exact ⟨j + 1, by omega, by go_num, HK⟩
        case measure => simp [intOf]; omega
      · have hv : (((s[j].toNat : Nat) : Int) != 32) = true := by rw [hc]; simp; omega
        have hne : (c == 32) = false := by simp; intro e; rw [e] at h32; exact h32 rfl
        by_cases h97 : c.toNat < 97
        · have hv2 : decide (((s[j].toNat : Nat) : Int) < 97) = true := by rw [hc]; simp; omega
          have HK : Hid (textOK l = false) := HB.out (by rw [HS.out, hne]; simp; omega)
          clear hc
          go_wp2
          go_ret
          exact ⟨by rw [HK.out]; rfl, rfl⟩
        · have hv2 : decide (((s[j].toNat : Nat) : Int) < 97) = false := by rw [hc]; simp; omega
          by_cases h122 : 122 < c.toNat
          · have hv3 : decide ((122 : Int) < ((s[j].toNat : Nat) : Int)) = true := by rw [hc]; simp; omega
            have HK : Hid (textOK l = false) := HB.out (by rw [HS.out, hne]; simp; omega)
            clear hc
            go_wp2
            go_ret
            exact ⟨by rw [HK.out]; rfl, rfl⟩
          · have hv3 : decide ((122 : Int) < ((s[j].toNat : Nat) : Int)) = false := by rw [hc]; simp; omega
            have HK : Hid (textOK (l.take (j + 1)) = true) := by
              show _ = _
              rw [HS.out, hok.out]; simp; omega
            clear hc
            go_wp2
            go_round
            case rel => exact ⟨j + 1, by omega, by go_num, HK⟩
            case measure => simp [intOf]; omega
    · have hjn : Hid (j = s.size) := (by omega : j = s.size)
      go_wp2
      go_ret
      exact ⟨by rw [← HN.out j hjn.out, hok.out]; rfl, rfl⟩
end Go.Proofs.Qxb6500357aGreat
