import Derived.Test.Qxb6500357aLow
import Derived.BigQuiet
namespace Go.Tag
set_option linter.unusedVariables false
set_option linter.unusedSimpArgs false
theorem filter_at {α : Type} (L : List α) (p : α → Bool) (k : Nat) (h : k < L.length) (hp : p L[k] = true) : (L.filter p)[((L.take k).filter p).length]? = some L[k] ∧ ((L.take k).filter p).length < (L.filter p).length := by
  have e : L.filter p = (L.take k).filter p ++ L[k] :: (L.drop (k + 1)).filter p := by
    conv => lhs; rw [← List.take_append_drop k L, List.drop_eq_getElem_cons h]
    rw [List.filter_append, List.filter_cons, if_pos hp]
  constructor
  · rw [e, List.getElem?_append_right (Nat.le_refl _)]; simp
  · rw [e]; simp
theorem filter_le_len {α : Type} (L : List α) (p : α → Bool) (k : Nat) : ((L.take k).filter p).length ≤ (L.filter p).length := ((List.take_sublist k L).filter p).length_le
theorem filter_ne {α : Type} (L : List α) (p : α → Bool) (i : Nat) (y x : α) (h : (L.filter p)[i]? = some y) (hx : p x = false) : ¬ y = x := by
  intro e; subst e
  have := (List.mem_filter.1 (List.mem_of_getElem? h)).2
  rw [hx] at this; cases this
theorem filter_step {α : Type} (L : List α) (p : α → Bool) (k : Nat) (h : k < L.length) : ((L.take (k + 1)).filter p).length = ((L.take k).filter p).length + (if p L[k] then 1 else 0) := by
  rw [take_snoc L k h, List.filter_append, List.length_append]
  congr 1
  by_cases hp : p L[k] = true <;> simp [hp]
theorem pw_get {L : List Int} (h : L.Pairwise (· < ·)) (k : Nat) (hk : k + 1 < L.length) : L[k] < L[k + 1] := List.pairwise_iff_getElem.1 h k (k + 1) (by omega) hk (by omega)
end Go.Tag
namespace Go.Proofs.Qxb6500357a
open Go.RowKit Go.Tag
set_option linter.unusedVariables false
set_option linter.unusedSimpArgs false
set_option maxRecDepth 100000
attribute [local simp] str_size
attribute [local go_sem] str_size

set_option maxHeartbeats 2000000 in
theorem woven_any (v1 v2 v3 : Value) (L : List Int) (p : Int → Bool) (w : World) (h1 : Sl w v1 ((L.filter p).map (Value.int .i64))) (h2 : Sl w v2 ((L.filter fun i => !p i).map (Value.int .i64))) (h3 : Sl w v3 (L.map (Value.int .i64))) (hs : L.Pairwise (· < ·)) (hl : L.length ≤ 1000) :
    Calls Try.prog 81 #[v1, v2, v3] w fun e w' => e = .returned (.bool true) ∧ Fr No w w' := by
  obtain ⟨a1, cap1, rfl, hc1⟩ := h1
  obtain ⟨a2, cap2, rfl, hc2⟩ := h2
  obtain ⟨a3, cap3, rfl, hc3⟩ := h3
  rw [List.length_map, List.length_map, List.length_map]
  obtain ⟨n, hn⟩ : ∃ n, L.length = n := ⟨_, rfl⟩
  obtain ⟨n1, hn1⟩ : ∃ n1, (L.filter p).length = n1 := ⟨_, rfl⟩
  obtain ⟨n2, hn2⟩ : ∃ n2, (L.filter fun i => !p i).length = n2 := ⟨_, rfl⟩
  have HN : Hid (L.length = n ∧ (L.filter p).length = n1 ∧ (L.filter fun i => !p i).length = n2) := ⟨hn, hn1, hn2⟩
  have hl1 : n1 ≤ 1000 := by have := List.length_filter_le p L; omega
  have hl2 : n2 ≤ 1000 := by have := List.length_filter_le (fun i => !p i) L; omega
  rw [hn, hn1, hn2]
  rw [hn] at hl
  have HC1 : Hid (∀ (i : Nat) (x : Int), (L.filter p)[i]? = some x → ∃ g o, a1 = some ⟨g, o, none⟩ ∧ w.cell? ⟨g, o + i, none⟩ = some (.int .i64 x)) := fun i x hx => hc1 i _ (by rw [List.getElem?_map, hx]; rfl)
  have HC2 : Hid (∀ (i : Nat) (x : Int), (L.filter fun i => !p i)[i]? = some x → ∃ g o, a2 = some ⟨g, o, none⟩ ∧ w.cell? ⟨g, o + i, none⟩ = some (.int .i64 x)) := fun i x hx => hc2 i _ (by rw [List.getElem?_map, hx]; rfl)
  have HC3 : Hid (∀ (i : Nat) (h : i < L.length), ∃ g o, a3 = some ⟨g, o, none⟩ ∧ w.cell? ⟨g, o + i, none⟩ = some (.int .i64 L[i])) := fun i h => hc3 i _ (by rw [List.getElem?_map, List.getElem?_eq_getElem h]; rfl)
  have HS : Hid (L.Pairwise (· < ·)) := hs
  clear hc1 hc2 hc3 hn hn1 hn2 hs
  go_enter Try.func81, Try.ntmps81
  go_wp2
  go_loopw [7, 8, 9] (fun i j k wr => ∃ q i' j' : Nat, q ≤ n ∧ k = .int .i64 q ∧ i = .int .i64 i' ∧ j = .int .i64 j' ∧ Hid (i' = ((L.take q).filter p).length ∧ j' = ((L.take q).filter fun i => !p i).length) ∧ (∃ m, wr = w.drewN m)) (fun _ _ k _ => n - (intOf k).toNat)
  case atStart => exact ⟨0, 0, 0, Nat.zero_le _, rfl, rfl, rfl, ⟨by simp, by simp⟩, 0, rfl⟩
  case round =>
    obtain ⟨q, i', j', hq, rfl, rfl, rfl, hij, m, hwm⟩ := hrel
    subst hwm
    by_cases hlt : q < n
    · have hql : q < L.length := by rw [HN.out.1]; exact hlt
      obtain ⟨g3, o3, e3, c3⟩ := HC3.out q hql
      subst e3
      have hd1 : (q : Int) < (n : Int) := by omega
      have hil : i' ≤ n1 := by rw [hij.out.1, ← HN.out.2.1]; exact filter_le_len L p q
      have hjl : j' ≤ n2 := by rw [hij.out.2, ← HN.out.2.2]; exact filter_le_len L _ q
      -- the rising test
      have hrise : (decide (0 < q) = false ∧ decide ((0 : Int) < (q : Int)) = false) ∨ (∃ r x, q = r + 1 ∧ decide (0 < q) = true ∧ w.cell? ⟨g3, o3 + r, none⟩ = some (.int .i64 x) ∧ x < L[q]) := by
        rcases Nat.eq_zero_or_pos q with h0 | h0
        · exact .inl ⟨by simp [h0], by simp [h0]⟩
        · obtain ⟨r, rfl⟩ : ∃ r, q = r + 1 := ⟨q - 1, by omega⟩
          obtain ⟨g', o', e', c'⟩ := HC3.out r (by omega)
          simp only [Option.some.injEq, Addr.mk.injEq, and_true] at e'
          obtain ⟨rfl, rfl⟩ := e'
          exact .inr ⟨r, L[r], rfl, by simp, c', pw_get HS.out r hql⟩
      cases hp : p L[q] with
      | true =>
        obtain ⟨hat, hat2⟩ := filter_at L p q hql hp
        rw [← hij.out.1] at hat hat2
        obtain ⟨g1, o1, e1, c1⟩ := HC1.out i' _ hat
        subst e1
        have hi1 : (i' : Int) < (n1 : Int) := by rw [HN.out.2.1] at hat2; omega
        have hi1d : decide ((i' : Int) < (n1 : Int)) = true := by simpa using hi1
        have HK : Hid (i' + 1 = ((L.take (q + 1)).filter p).length ∧ j' = ((L.take (q + 1)).filter fun i => !p i).length) := by
          refine ⟨?_, ?_⟩
          · rw [filter_step L p q hql, hp, ← hij.out.1]; rfl
          · rw [filter_step L _ q hql, hp, ← hij.out.2]; rfl
        generalize L[q] = x at *
        clear hat hat2 hp hij hql
        have hxx : (x == x) = true := by simp
        rcases hrise with ⟨hr, hr0⟩ | ⟨r, y, hr1, hr, hcy, hyx⟩
        · go_wp2
          go_quiet (fail)
          go_wp2
          go_quiet (fail)
          go_wp2
          go_roundw
          case rel => exact ⟨q + 1, i' + 1, j', by omega, by go_num, by go_num, rfl, HK, _, by rfl⟩
          case measure => simp [intOf]; omega
        · have hyx' : decide (x ≤ y) = false := by simp; omega
          have hqr : (q : Int) - 1 = (r : Int) := by omega
          clear hr1
          go_wp2
          go_quiet (fail)
          go_wp2
          go_quiet (fail)
          go_wp2
          go_roundw
          case rel => exact ⟨q + 1, i' + 1, j', by omega, by go_num, by go_num, rfl, HK, _, by rfl⟩
          case measure => simp [intOf]; omega
      | false =>
        have hpn : (!p L[q]) = true := by rw [hp]; rfl
        obtain ⟨hat, hat2⟩ := filter_at L (fun i => !p i) q hql hpn
        rw [← hij.out.2] at hat hat2
        obtain ⟨g2, o2, e2, c2⟩ := HC2.out j' _ hat
        subst e2
        have hj1 : (j' : Int) < (n2 : Int) := by rw [HN.out.2.2] at hat2; omega
        have hj1d : decide ((j' : Int) < (n2 : Int)) = true := by simpa using hj1
        have hj1n : decide (j' < n2) = true := by simp; omega
        have HK : Hid (i' = ((L.take (q + 1)).filter p).length ∧ j' + 1 = ((L.take (q + 1)).filter fun i => !p i).length) := by
          refine ⟨?_, ?_⟩
          · rw [filter_step L p q hql, hp, ← hij.out.1]; rfl
          · rw [filter_step L _ q hql, hpn, ← hij.out.2]; rfl
        have hfirst : (decide ((i' : Int) < (n1 : Int)) = false ∧ decide (i' < n1) = false ∧ ¬ (i' : Int) < (n1 : Int)) ∨ (∃ g1 o1 z, a1 = some ⟨g1, o1, none⟩ ∧ decide ((i' : Int) < (n1 : Int)) = true ∧ decide (i' < n1) = true ∧ (i' : Int) < (n1 : Int) ∧ w.cell? ⟨g1, o1 + i', none⟩ = some (.int .i64 z) ∧ (z == L[q]) = false) := by
          by_cases hi : i' < n1
          · have hil2 : i' < (L.filter p).length := by rw [HN.out.2.1]; exact hi
            obtain ⟨g1, o1, e1, c1⟩ := HC1.out i' _ (List.getElem?_eq_getElem hil2)
            refine .inr ⟨g1, o1, _, e1, by simp; omega, by simp; omega, by omega, c1, ?_⟩
            have := filter_ne L p i' _ L[q] (List.getElem?_eq_getElem hil2) hp
            simpa using this
          · exact .inl ⟨by simp; omega, by simp; omega, by omega⟩
        generalize L[q] = x at *
        clear hat hat2 hp hpn hij hql
        have hxx : (x == x) = true := by simp
        rcases hfirst with ⟨hf1, hf1n, hf2⟩ | ⟨g1, o1, zz, e1, hf1, hf1n, hf2, c1, hzx⟩
        · rcases hrise with ⟨hr, hr0⟩ | ⟨r, y, hr1, hr, hcy, hyx⟩
          · go_wp2
            go_quiet (fail)
            go_wp2
            go_quiet (fail)
            go_wp2
            go_quiet (fail)
            go_wp2
            go_roundw
            case rel => exact ⟨q + 1, i', j' + 1, by omega, by go_num, rfl, by go_num, HK, _, by rfl⟩
            case measure => simp [intOf]; omega
          · have hyx' : decide (x ≤ y) = false := by simp; omega
            have hqr : (q : Int) - 1 = (r : Int) := by omega
            clear hr1
            go_wp2
            go_quiet (fail)
            go_wp2
            go_quiet (fail)
            go_wp2
            go_quiet (fail)
            go_wp2
            go_roundw
            case rel => exact ⟨q + 1, i', j' + 1, by omega, by go_num, rfl, by go_num, HK, _, by rfl⟩
            case measure => simp [intOf]; omega
        · subst e1
          rcases hrise with ⟨hr, hr0⟩ | ⟨r, y, hr1, hr, hcy, hyx⟩
          · go_wp2
            go_quiet (fail)
            go_wp2
            go_quiet (fail)
            go_wp2
            go_quiet (fail)
            go_wp2
            go_roundw
            case rel => exact ⟨q + 1, i', j' + 1, by omega, by go_num, rfl, by go_num, HK, _, by rfl⟩
            case measure => simp [intOf]; omega
          · have hyx' : decide (x ≤ y) = false := by simp; omega
            have hqr : (q : Int) - 1 = (r : Int) := by omega
            clear hr1
            go_wp2
            go_quiet (fail)
            go_wp2
            go_quiet (fail)
            go_wp2
            go_quiet (fail)
            go_wp2
            go_roundw
            case rel => exact ⟨q + 1, i', j' + 1, by omega, by go_num, rfl, by go_num, HK, _, by rfl⟩
            case measure => simp [intOf]; omega
    · have hqn : q = n := by omega
      have HI : Hid (i' = n1 ∧ j' = n2) := by
        have := hij.out
        rw [hqn, ← HN.out.1, List.take_length, HN.out.2.1, HN.out.2.2] at this
        exact this
      obtain ⟨e1, e2⟩ := HI.out
      subst e1 e2
      clear hij
      go_wp2
      go_ret
      exact ⟨by simp, (Fr.refl No w).drewN m⟩
end Go.Proofs.Qxb6500357a
