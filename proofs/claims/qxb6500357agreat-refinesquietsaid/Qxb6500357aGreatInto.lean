import Derived.Test.Qxb6500357aGreatWords
import Derived.Test.Qxb6500357aGreatSortS
import Derived.Test.Qxb6500357aGreatSplit
import Derived.OwnWalk
import Derived.Laws.AppendOwnNone
namespace Go.Tag
open Go.RowKit
set_option linter.unusedVariables false
set_option linter.unusedSimpArgs false
theorem into_same (u : Word) : ∀ (l : List Word) (j : Nat) (h : j < l.length), (∀ x ∈ l.take j, x < u) → l[j] = u → into l u = l
  | [], j, h, _, _ => by simp at h
  | a :: l, 0, h, _, e => by
    simp only [List.getElem_cons_zero] at e
    subst e
    unfold into; rw [if_neg (wlt_irr a), if_pos rfl]
  | a :: l, j + 1, h, hx, e => by
    unfold into
    rw [if_pos (hx a (by simp)), into_same u l j (by simpa using h) (fun x hx' => hx x (by simp [hx'])) (by simpa using e)]
theorem into_new (u : Word) : ∀ (l : List Word) (j : Nat) (h : j ≤ l.length), (∀ x ∈ l.take j, x < u) → (∀ h' : j < l.length, ¬ l[j] < u ∧ ¬ l[j] = u) → into l u = l.take j ++ [u] ++ l.drop j
  | [], j, h, _, _ => by simp at h; subst h; rfl
  | a :: l, 0, h, _, e => by
    have := e (by simp)
    simp only [List.getElem_cons_zero] at this
    unfold into; rw [if_neg this.1, if_neg this.2]; simp
  | a :: l, j + 1, h, hx, e => by
    unfold into
    rw [if_pos (hx a (by simp)), into_new u l j (by simpa using h) (fun x hx' => hx x (by simp [hx'])) (fun h' => by have := e (by simp; omega); simp only [List.getElem_cons_succ] at this; exact this)]
    simp
theorem into_len (u : Word) : ∀ l : List Word, (into l u).length ≤ l.length + 1
  | [] => by simp [into]
  | a :: l => by
    have := into_len u l
    unfold into; split
    · simp; omega
    · split <;> simp
/-- A list of words in memory, from its block's head. -/
def SlW (w : World) (v : Value) (L : List Word) : Prop := (v = .slice none 0 0 ∧ L = []) ∨ ∃ g cap, v = .slice (some ⟨g, 0, none⟩) L.length cap ∧ L.length ≤ cap ∧ ∀ j (h : j < L.length), w.cell? ⟨g, j, none⟩ = some (.string (str L[j]))
theorem SlW.fr {w w' : World} {v : Value} {L : List Word} (h : SlW w v L) (hf : Fr No w w') : SlW w' v L := by
  rcases h with h | ⟨g, cap, h1, h2, h3⟩
  · exact .inl h
  · exact .inr ⟨g, cap, h1, h2, fun j hj => hf.cell (h3 j hj) (fun h => h)⟩
theorem SlW.own {w : World} {v : Value} {L : List Word} {base : Nat} {e : TypeId} (h : w.ownsRow base e 1 v L.length (L.map fun s => Value.string (str s))) : SlW w v L := by
  obtain ⟨h1, h2⟩ := h
  rcases h2 with ⟨rfl, h0⟩ | ⟨g, cap, cur, rfl, hg, hh, hnc, hcm, hsz, htk⟩
  · exact .inl ⟨rfl, List.eq_nil_of_length_eq_zero h0⟩
  · refine .inr ⟨g, cap, rfl, hnc, fun j hj => ?_⟩
    have e : cur[j]? = (L.map fun s => Value.string (str s))[j]? := by
      rw [← htk, List.getElem?_take, if_pos (by omega)]; simp
    rw [cell_of_heap hh, e]; simp [hj]
theorem SlW.sl {w : World} {v : Value} {L : List Word} (h : SlW w v L) : Sl w v (L.map fun s => Value.string (str s)) := by
  rcases h with ⟨rfl, rfl⟩ | ⟨g, cap, rfl, h2, h3⟩
  · exact ⟨none, 0, rfl, fun j u hj => by simp at hj⟩
  · refine ⟨_, cap, by simp, fun j u hj => ⟨g, 0, rfl, ?_⟩⟩
    simp only [List.getElem?_map, Option.map_eq_some_iff] at hj
    obtain ⟨x, hx, rfl⟩ := hj
    obtain ⟨h', rfl⟩ := List.getElem?_eq_some_iff.1 hx
    rw [Nat.zero_add]; exact h3 j h'
end Go.Tag
namespace Go.Proofs.Qxb6500357aGreat
open Go.RowKit Go.Tag
set_option linter.unusedVariables false
set_option linter.unusedSimpArgs false
set_option maxRecDepth 100000
attribute [local simp] str_size
attribute [local go_sem] str_size

/-- The list, and where it lies: where v0 lies, or anew. -/
def IntoPost (w : World) (v0 : Value) (L : List Word) (e : Ending) (w' : World) : Prop := ∃ v, e = .returned v ∧ SlW w' v L ∧ Fr No w w' ∧ (v = v0 ∨ ∀ k, v.ownBlock = some k → w.heap.size ≤ k)
theorem own_words {w : World} {v : Value} {base n : Nat} {e : TypeId} {L : List Word} {xs : List Value} (h : w.ownsRow base e 1 v n xs) (hx : xs = L.map fun s => Value.string (str s)) : SlW w v L := by
  subst hx
  have hn : n = L.length := by have := h.1; simpa using this.symm
  subst hn
  exact SlW.own h

theorem src_fr {w w' : World} (f : Fr No w w') {g o : Nat} {news : List Value} (h : ∀ j u, news[j]? = some u → w.cell? ⟨g, o + j, none⟩ = some u) : ∀ j u, news[j]? = some u → w'.cell? ((⟨g, o, none⟩ : Addr).add j) = some u :=
  fun j u hj => by
    have := f.cell (h j u hj) (fun h => h)
    by_cases e : j = 0
    · subst e; simpa [Addr.add] using this
    · simpa [Addr.add, e] using this
theorem one_str (news : List Word) : ∀ u ∈ news.map fun s => Value.string (str s), u.oneCell' = true := by
  intro u hu
  obtain ⟨x, -, rfl⟩ := List.mem_map.1 hu
  rfl
theorem fr_owned {w a b : World} {v : Value} {base n : Nat} {e : TypeId} {xs : List Value} {o : Option Obj} (f : Fr No w a) (ho : a.ownsRow base e 1 v n xs) (hb : w.heap.size ≤ base) (hg : a.grownBy b v.ownBlock) : Fr No w b :=
  f.trans' ((Fr.refl (fun k => v.ownBlock = some k) a).grown hg (fun k hk => .inr hk)) (fun i hi e => by have := own_ge ho e; omega)

set_option maxHeartbeats 1000000 in
theorem into_nil (u : Word) (w : World) : Calls Tryz.prog 96 #[.slice none 0 0, .string (str u)] w (IntoPost w (.slice none 0 0) (into [] u)) := by
  obtain ⟨i0, hi, hz0, hz1, hz2⟩ := info_parts info9
  obtain ⟨wm, hmk, hom, hgm⟩ := run_make_own (P := Tryz.prog) w w.heap.size 63 9 i0 (.string ⟨#[]⟩) 1 Tryz.underlying63 hi hz0 hz1 .i64 .i64 1 (by rw [hz2]; decide) (by decide) (Nat.le_refl _)
  have hmk' : (Instr.makeSlice 63 (.int .i64 0) (.int .i64 (wrap64 1))).run Tryz.prog w = .ok (.slice (some ⟨w.heap.size, 0, none⟩) 0 1) wm := by rw [show wrap64 1 = ((1 : Nat) : Int) by kernel_rfl]; exact hmk
  have hmk1 : (Instr.makeSlice 63 (.int .i64 0) (.int .i64 1)).run Tryz.prog w = .ok (.slice (some ⟨w.heap.size, 0, none⟩) 0 1) wm := hmk
  have fm : Fr No w wm := (Fr.refl No w).grown hgm (fun k hk => by cases hk)
  have hsm := fm.size
  have HM : Hid (Fr No w wm) := fm
  clear hmk fm hgm
  go_enter Tryz.func96, Tryz.ntmps96
  go_wp2
  refine wp_loop_rounds 1 ?_
  rw [rounds_succ]
  go_wp2_with first
    | (at_builtin; refine wpList_append_own_none rfl _ _ 63 rfl w.heap.size 9 i0 1 Tryz.underlying63 hi v' 1 _ rfl ho1 rfl ?_
       have HD : Hid (IntoPost w (.slice none 0 0) (into [] u) (.returned v') w1) := ⟨v', rfl, own_words ho1 rfl, f1, .inr (fun k hk => (own_ge ho1 hk).1)⟩)
    | (at_builtin; refine wpList_append_own_at _ rfl _ _ 63 rfl w.heap.size 9 i0 (.string ⟨#[]⟩) 1 16 Tryz.underlying63 hi hz0 hz1 hz2 rfl (by decide) (.slice (some ⟨w.heap.size, 0, none⟩) 0 1) 0 _ rfl (hom.alloc _) ⟨wm.heap.size, 0, none⟩ 1 1 [.string (str u)] rfl rfl (cell_one_new _ _ _) (by intro u hu; simp only [List.mem_singleton] at hu; subst hu; rfl) (by decide) (by decide) (by simp; omega) ?_
       intro v' w1 ho1 hgrow hnil' hloc
       have f1 : Fr No w w1 := (HM.out.alloc _).trans' ((Fr.refl (fun k => (Value.slice (some ⟨w.heap.size, 0, none⟩) 0 1).ownBlock = some k) _).grown hgrow (fun k hk => .inr hk)) (fun i hi e => by have := own_ge hom e; omega)
       clear hgrow hloc)
    | (at_builtin; refine wpList_append_own_none rfl _ _ 63 rfl w.heap.size 9 i0 1 Tryz.underlying63 hi (.slice (some ⟨w.heap.size, 0, none⟩) 0 1) 0 [] rfl hom rfl ?_)
  go_ret
  exact HD.out

set_option maxHeartbeats 1000000 in
theorem into_some (g cap : Nat) (L : List Word) (u : Word) (w : World) (hcap : L.length ≤ cap) (hc : ∀ j (h : j < L.length), w.cell? ⟨g, j, none⟩ = some (.string (str L[j]))) (hl : L.length ≤ 1000) : Calls Tryz.prog 96 #[.slice (some ⟨g, 0, none⟩) L.length cap, .string (str u)] w (IntoPost w (.slice (some ⟨g, 0, none⟩) L.length cap) (into L u)) := by
  obtain ⟨i0, hi, hz0, hz1, hz2⟩ := info_parts info9
  obtain ⟨n, hn⟩ : ∃ n, L.length = n := ⟨_, rfl⟩
  obtain ⟨wm, hmk, hom, hgm⟩ := run_make_own (P := Tryz.prog) w w.heap.size 63 9 i0 (.string ⟨#[]⟩) 1 Tryz.underlying63 hi hz0 hz1 .i64 .i64 (n + 1) (by rw [hz2]; omega) (by unfold maxLen; omega) (Nat.le_refl _)
  have hmk' : (Instr.makeSlice 63 (.int .i64 0) (.int .i64 ((n : Int) + 1))).run Tryz.prog w = .ok (.slice (some ⟨w.heap.size, 0, none⟩) 0 (n + 1)) wm := hmk
  have fm : Fr No w wm := (Fr.refl No w).grown hgm (fun k hk => by cases hk)
  have hsm := fm.size
  have HM : Hid (Fr No w wm) := fm
  have HC : Hid (∀ j (h : j < L.length), w.cell? ⟨g, j, none⟩ = some (.string (str L[j]))) := hc
  have HN : Hid (L.length = n) := hn
  rw [hn] at hcap hl ⊢
  clear hmk fm hgm hc hn
  go_enter Tryz.func96, Tryz.ntmps96
  go_wp2
  go_loop [5] (fun i => ∃ j : Nat, j ≤ n ∧ i = .int .i64 j ∧ Hid (∀ x ∈ L.take j, x < u)) (fun i => n - (intOf i).toNat)
  case atStart => exact ⟨0, Nat.zero_le _, rfl, fun x hx => by simp at hx⟩
  case round =>
    obtain ⟨j, hj, rfl, hok⟩ := hrel
    have hex : (∃ h : j < L.length, L[j] < u) ∨ (∀ h : j < L.length, ¬ L[j] < u) := by
      rcases Classical.em (∃ h : j < L.length, L[j] < u) with h | h
      · exact .inl h
      · exact .inr (fun h1 h2 => h ⟨h1, h2⟩)
    rcases hex with ⟨hlt, hLt⟩ | hge
    · have hcj := HC.out j hlt
      have hjn : j < n := by rw [← HN.out]; exact hlt
      have hjd : decide ((j : Int) < (n : Int)) = true := by simp; omega
      have hjd' : (j : Int) < (n : Int) := by omega
      have hbl : Op.bytesLess (str L[j]).toList (str u).toList = true := by rw [str_toList, str_toList, less_eq]; simpa using hLt
      have HK : Hid (∀ x ∈ L.take (j + 1), x < u) := fun x hx => by
        rw [take_snoc L j hlt, List.mem_append, List.mem_singleton] at hx
        rcases hx with hx | rfl
        · exact hok.out x hx
        · exact hLt
      clear hLt
      generalize L[j] = lj at *
      go_wp2
      go_round
      case rel => exact ⟨j + 1, by omega, by go_num, HK⟩
      case measure => simp [intOf]; omega
    · by_cases hsame : ∃ h : j < L.length, L[j] = u
      · obtain ⟨hlt, hLe⟩ := hsame
        have hcj := HC.out j hlt
        have hjn : j < n := by rw [← HN.out]; exact hlt
        have hjd : decide ((j : Int) < (n : Int)) = true := by simp; omega
        have hjd' : (j : Int) < (n : Int) := by omega
        have hbl : Op.bytesLess (str L[j]).toList (str u).toList = false := by rw [str_toList, str_toList, less_eq]; simpa using hge hlt
        have hbe : ((str L[j]).toList == (str u).toList) = true := by rw [str_toList, str_toList]; simpa using hLe
        have HE : Hid (IntoPost w (.slice (some ⟨g, 0, none⟩) n cap) (into L u) (.returned (.slice (some ⟨g, 0, none⟩) n cap)) w) := by
          rw [Hid, into_same u L j hlt hok.out hLe]
          exact ⟨_, rfl, .inr ⟨g, cap, by rw [HN.out], by rw [HN.out]; exact hcap, HC.out⟩, Fr.refl _ _, .inl rfl⟩
        clear hge hLe
        generalize L[j] = lj at *
        go_wp2
        go_ret
        exact HE.out
      · have HI : Hid (into L u = L.take j ++ [u] ++ L.drop j) := into_new u L j (by rw [HN.out]; exact hj) hok.out (fun h' => ⟨hge h', fun e => hsame ⟨h', e⟩⟩)
        have HF : Hid (∀ (w' : World) (v' : Value) (m : Nat), w'.ownsRow w.heap.size 9 1 v' m (((L.take j).map fun s => Value.string (str s)) ++ [.string (str u)] ++ ((L.drop j).map fun s => Value.string (str s))) → Fr No w w' → IntoPost w (.slice (some ⟨g, 0, none⟩) n cap) (into L u) (.returned v') w') := fun w' v' m ho f => by
          rw [HI.out]
          exact ⟨v', rfl, own_words ho (by simp), f, .inr (fun k hk => (own_ge ho hk).1)⟩
        have HT1 : Hid (∀ i x, ((L.take j).map fun s => Value.string (str s))[i]? = some x → w.cell? ⟨g, 0 + i, none⟩ = some x) := fun i x hx => by
          simp only [List.getElem?_map, Option.map_eq_some_iff] at hx
          obtain ⟨y, hy, rfl⟩ := hx
          rw [List.getElem?_take] at hy
          split at hy
          · obtain ⟨h', rfl⟩ := List.getElem?_eq_some_iff.1 hy
            rw [Nat.zero_add]; exact HC.out i h'
          · cases hy
        have HT2 : Hid (∀ i x, ((L.drop j).map fun s => Value.string (str s))[i]? = some x → w.cell? ⟨g, j + i, none⟩ = some x) := fun i x hx => by
          simp only [List.getElem?_map, Option.map_eq_some_iff] at hx
          obtain ⟨y, hy, rfl⟩ := hx
          rw [List.getElem?_drop] at hy
          obtain ⟨h', rfl⟩ := List.getElem?_eq_some_iff.1 hy
          exact HC.out _ h'
        have hl1 : ((L.take j).map fun s => Value.string (str s)).length = j * 1 := by simp [HN.out]; omega
        have hl2 : ((L.drop j).map fun s => Value.string (str s)).length = (n - j) * 1 := by simp [HN.out]
        have HL : Hid ((((L.take j).map fun s => Value.string (str s)).length = j * 1) ∧ ((L.drop j).map fun s => Value.string (str s)).length = (n - j) * 1) := ⟨hl1, hl2⟩
        have HO1 : Hid (∀ x ∈ (L.take j).map fun s => Value.string (str s), x.oneCell' = true) := one_str _
        have HO2 : Hid (∀ x ∈ (L.drop j).map fun s => Value.string (str s), x.oneCell' = true) := one_str _
        generalize hA : ((L.take j).map fun s => Value.string (str s)) = A at *
        generalize hB : ((L.drop j).map fun s => Value.string (str s)) = B at *
        clear hl1 hl2 hA hB
        by_cases hjn : j < n
        · have hlt : j < L.length := by rw [HN.out]; exact hjn
          have hcj := HC.out j hlt
          have hjd : decide ((j : Int) < (n : Int)) = true := by simp; omega
          have hjd' : (j : Int) < (n : Int) := by omega
          have hbl : Op.bytesLess (str L[j]).toList (str u).toList = false := by rw [str_toList, str_toList, less_eq]; simpa using hge hlt
          have hbe : ((str L[j]).toList == (str u).toList) = false := by rw [str_toList, str_toList]; simp; exact fun e => hsame ⟨hlt, e⟩
          clear hge hsame
          generalize L[j] = lj at *
          go_wp2_with first
            | (at_builtin; refine wpList_append_own_at _ rfl _ _ 63 rfl w.heap.size 9 i0 (.string ⟨#[]⟩) 1 16 Tryz.underlying63 hi hz0 hz1 hz2 rfl (by decide) v2 (0 + j + 1) _ rfl ho2 ⟨g, j, none⟩ (n - j) (cap - j) B rfl HL.out.2 (src_fr f2 HT2.out) HO2.out (by unfold maxLen; omega) (by omega) (by have := f2.size; omega) ?_
               intro v3 w3 ho3 hg3 hnil3 hloc3
               have HD : Hid (IntoPost w (.slice (some ⟨g, 0, none⟩) n cap) (into L u) (.returned v3) w3) := HF.out w3 v3 _ (by simpa using ho3) (fr_owned (o := none) f2 ho2 (Nat.le_refl _) hg3)
               clear ho3 hg3 hloc3)
            | (at_builtin; refine wpList_append_own_at _ rfl _ _ 63 rfl w.heap.size 9 i0 (.string ⟨#[]⟩) 1 16 Tryz.underlying63 hi hz0 hz1 hz2 rfl (by decide) v1 (0 + j) _ rfl (ho1.alloc _) ⟨w1.heap.size, 0, none⟩ 1 1 [.string (str u)] rfl rfl (cell_one_new _ _ _) (by intro u hu; simp only [List.mem_singleton] at hu; subst hu; rfl) (by unfold maxLen; omega) (by omega) (by simp; omega) ?_
               intro v2 w2 ho2 hg2 hnil2 hloc2
               have f2 : Fr No w w2 := fr_owned (o := none) (f1.alloc _) (ho1.alloc _) (Nat.le_refl _) hg2
               clear hg2 hloc2)
            | (at_builtin; refine wpList_append_own_at _ rfl _ _ 63 rfl w.heap.size 9 i0 (.string ⟨#[]⟩) 1 16 Tryz.underlying63 hi hz0 hz1 hz2 rfl (by decide) (.slice (some ⟨w.heap.size, 0, none⟩) 0 (n + 1)) 0 _ rfl hom ⟨g, 0, none⟩ j cap A rfl HL.out.1 (src_fr HM.out HT1.out) HO1.out (by unfold maxLen; omega) (by omega) (by omega) ?_
               intro v1 w1 ho1 hg1 hnil1 hloc1
               have f1 : Fr No w w1 := fr_owned (o := none) HM.out hom (Nat.le_refl _) hg1
               have hs1 := f1.size
               clear hg1 hloc1)
          go_ret
          exact HD.out
        · have hjd : decide ((j : Int) < (n : Int)) = false := by simp; omega
          have HB0 : Hid (B = []) := List.eq_nil_of_length_eq_zero (by rw [HL.out.2]; omega)
          clear hge hsame
          have hjeq : j = n := by omega
          subst hjeq
          rcases Classical.em (j = cap) with hcj | hcj
          · subst hcj
            go_wp2_with first
              | (at_builtin; refine wpList_append_own_at _ rfl _ _ 63 rfl w.heap.size 9 i0 (.string ⟨#[]⟩) 1 16 Tryz.underlying63 hi hz0 hz1 hz2 rfl (by decide) v2 (0 + j + 1) _ rfl ho2 _ _ _ [] rfl (by simp; try omega) (fun j u hj => by simp at hj) (fun u hu => by simp at hu) (by unfold maxLen; omega) (by omega) (by have := f2.size; omega) ?_
                 intro v3 w3 ho3 hg3 hnil3 hloc3
                 have HD : Hid (IntoPost w _ (into L u) (.returned v3) w3) := HF.out w3 v3 _ (by rw [HB0.out, List.append_nil]; rw [List.append_nil] at ho3; simpa using ho3) (fr_owned (o := none) f2 ho2 (Nat.le_refl _) hg3)
                 clear ho3 hg3 hloc3)
              | (at_builtin; refine wpList_append_own_at _ rfl _ _ 63 rfl w.heap.size 9 i0 (.string ⟨#[]⟩) 1 16 Tryz.underlying63 hi hz0 hz1 hz2 rfl (by decide) v1 (0 + j) _ rfl (ho1.alloc _) ⟨w1.heap.size, 0, none⟩ 1 1 [.string (str u)] rfl rfl (cell_one_new _ _ _) (by intro u hu; simp only [List.mem_singleton] at hu; subst hu; rfl) (by unfold maxLen; omega) (by omega) (by simp; omega) ?_
                 intro v2 w2 ho2 hg2 hnil2 hloc2
                 have f2 : Fr No w w2 := fr_owned (o := none) (f1.alloc _) (ho1.alloc _) (Nat.le_refl _) hg2
                 clear hg2 hloc2)
              | (at_builtin; refine wpList_append_own_at _ rfl _ _ 63 rfl w.heap.size 9 i0 (.string ⟨#[]⟩) 1 16 Tryz.underlying63 hi hz0 hz1 hz2 rfl (by decide) (.slice (some ⟨w.heap.size, 0, none⟩) 0 (j + 1)) 0 _ rfl hom ⟨g, 0, none⟩ j _ A rfl HL.out.1 (src_fr HM.out HT1.out) HO1.out (by unfold maxLen; omega) (by omega) (by omega) ?_
                 intro v1 w1 ho1 hg1 hnil1 hloc1
                 have f1 : Fr No w w1 := fr_owned (o := none) HM.out hom (Nat.le_refl _) hg1
                 have hs1 := f1.size
                 clear hg1 hloc1)
            go_ret
            exact HD.out
          · go_wp2_with first
              | (at_builtin; refine wpList_append_own_at _ rfl _ _ 63 rfl w.heap.size 9 i0 (.string ⟨#[]⟩) 1 16 Tryz.underlying63 hi hz0 hz1 hz2 rfl (by decide) v2 (0 + j + 1) _ rfl ho2 _ _ _ [] rfl (by simp; try omega) (fun j u hj => by simp at hj) (fun u hu => by simp at hu) (by unfold maxLen; omega) (by omega) (by have := f2.size; omega) ?_
                 intro v3 w3 ho3 hg3 hnil3 hloc3
                 have HD : Hid (IntoPost w _ (into L u) (.returned v3) w3) := HF.out w3 v3 _ (by rw [HB0.out, List.append_nil]; rw [List.append_nil] at ho3; simpa using ho3) (fr_owned (o := none) f2 ho2 (Nat.le_refl _) hg3)
                 clear ho3 hg3 hloc3)
              | (at_builtin; refine wpList_append_own_at _ rfl _ _ 63 rfl w.heap.size 9 i0 (.string ⟨#[]⟩) 1 16 Tryz.underlying63 hi hz0 hz1 hz2 rfl (by decide) v1 (0 + j) _ rfl (ho1.alloc _) ⟨w1.heap.size, 0, none⟩ 1 1 [.string (str u)] rfl rfl (cell_one_new _ _ _) (by intro u hu; simp only [List.mem_singleton] at hu; subst hu; rfl) (by unfold maxLen; omega) (by omega) (by simp; omega) ?_
                 intro v2 w2 ho2 hg2 hnil2 hloc2
                 have f2 : Fr No w w2 := fr_owned (o := none) (f1.alloc _) (ho1.alloc _) (Nat.le_refl _) hg2
                 clear hg2 hloc2)
              | (at_builtin; refine wpList_append_own_at _ rfl _ _ 63 rfl w.heap.size 9 i0 (.string ⟨#[]⟩) 1 16 Tryz.underlying63 hi hz0 hz1 hz2 rfl (by decide) (.slice (some ⟨w.heap.size, 0, none⟩) 0 (j + 1)) 0 _ rfl hom ⟨g, 0, none⟩ j _ A rfl HL.out.1 (src_fr HM.out HT1.out) HO1.out (by unfold maxLen; omega) (by omega) (by omega) ?_
                 intro v1 w1 ho1 hg1 hnil1 hloc1
                 have f1 : Fr No w w1 := fr_owned (o := none) HM.out hom (Nat.le_refl _) hg1
                 have hs1 := f1.size
                 clear hg1 hloc1)
            go_ret
            exact HD.out

theorem into_any (v : Value) (L : List Word) (u : Word) (w : World) (hv : SlW w v L) (hl : L.length ≤ 1000) : Calls Tryz.prog 96 #[v, .string (str u)] w (IntoPost w v (into L u)) := by
  rcases hv with ⟨rfl, rfl⟩ | ⟨g, cap, rfl, hcap, hc⟩
  · exact into_nil u w
  · exact into_some g cap L u w hcap hc hl
end Go.Proofs.Qxb6500357aGreat
