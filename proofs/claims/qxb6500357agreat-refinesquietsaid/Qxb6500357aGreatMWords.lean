import Derived.Test.Qxb6500357aGreatInto
import Derived.Test.Qxb6500357aGreatRuns
namespace Go.Tag
set_option linter.unusedVariables false
set_option linter.unusedSimpArgs false
def addR (acc : List Word) (u : Word) : List Word := if u = [] then acc else into acc u
/-- The runs of a text, laid into acc. -/
def runsGo : Word → Word → List Word → List Word
  | [], cur, acc => addR acc cur
  | c :: t, cur, acc => if c = 32 then runsGo t [] (addR acc cur) else runsGo t (cur ++ [c]) acc
theorem addR_mem {acc : List Word} {u v : Word} : v ∈ addR acc u ↔ v ∈ acc ∨ (v = u ∧ u ≠ []) := by
  unfold addR
  by_cases h : u = []
  · rw [if_pos h]
    constructor
    · exact .inl
    · rintro (h' | ⟨_, h'⟩)
      · exact h'
      · exact absurd h h'
  · rw [if_neg h, into_mem]
    constructor
    · rintro (h' | h')
      · exact .inr ⟨h', h⟩
      · exact .inl h'
    · rintro (h' | ⟨h', _⟩)
      · exact .inr h'
      · exact .inl h'
theorem addR_sorted {acc : List Word} (u : Word) (h : acc.Pairwise (· < ·)) : (addR acc u).Pairwise (· < ·) := by
  unfold addR; split
  · exact h
  · exact into_sorted u acc h
theorem addR_len (acc : List Word) (u : Word) : (addR acc u).length ≤ acc.length + 1 := by
  unfold addR; split
  · omega
  · exact into_len u acc
theorem runsGo_run (u : Word) : ∀ (t cur : Word) (acc : List Word), (32 : UInt8) ∉ cur → (u ∈ runsGo t cur acc ↔ u ∈ acc ∨ IsRun (cur ++ t) u)
  | [], cur, acc, hc => by
    unfold runsGo
    rw [addR_mem, List.append_nil, isRun_whole hc]
  | c :: t, cur, acc, hc => by
    unfold runsGo
    by_cases h : c = 32
    · subst h
      rw [if_pos rfl, runsGo_run u t [] (addR acc cur) (by simp), addR_mem, isRun_blank hc, List.nil_append]
      constructor
      · rintro ((h | ⟨rfl, h⟩) | h)
        · exact .inl h
        · exact .inr (.inl ⟨rfl, h⟩)
        · exact .inr (.inr h)
      · rintro (h | ⟨rfl, h⟩ | h)
        · exact .inl (.inl h)
        · exact .inl (.inr ⟨rfl, h⟩)
        · exact .inr h
    · rw [if_neg h, runsGo_run u t (cur ++ [c]) acc (by simp only [List.mem_append, List.mem_singleton, not_or]; exact ⟨hc, Ne.symm h⟩)]
      simp
theorem runsGo_sorted : ∀ (t cur : Word) (acc : List Word), acc.Pairwise (· < ·) → (runsGo t cur acc).Pairwise (· < ·)
  | [], cur, acc, h => addR_sorted cur h
  | c :: t, cur, acc, h => by
    unfold runsGo; split
    · exact runsGo_sorted t [] _ (addR_sorted cur h)
    · exact runsGo_sorted t _ _ h
theorem runsGo_len : ∀ (t cur : Word) (acc : List Word), (runsGo t cur acc).length ≤ acc.length + t.length + 1
  | [], cur, acc => by have := addR_len acc cur; simp [runsGo]; omega
  | c :: t, cur, acc => by
    unfold runsGo; split
    · have h1 := runsGo_len t [] (addR acc cur); have h2 := addR_len acc cur; simp; omega
    · have h1 := runsGo_len t (cur ++ [c]) acc; simp; omega
end Go.Tag
namespace Go.Proofs.Qxb6500357aGreat
open Go.RowKit Go.Tag
set_option linter.unusedVariables false
set_option linter.unusedSimpArgs false
set_option maxRecDepth 100000
attribute [local simp] str_size
attribute [local go_sem] str_size

/-- The inner loop: text l, from acc0. -/
structure RunI (w : World) (l : Word) (acc0 : List Word) (j lo : Nat) (v : Value) (acc : List Word) (wr : World) : Prop where
  sl : SlW wr v acc
  fr : Fr No w wr
  len : acc.length ≤ acc0.length + j
  at_ : (j ≤ l.length ∧ lo ≤ j ∧ runsGo l [] acc0 = runsGo (l.drop j) ((l.take j).drop lo) acc) ∨ (j = l.length + 1 ∧ acc = runsGo l [] acc0)
theorem RunI.letter {w : World} {l : Word} {acc0 : List Word} {j lo : Nat} {v : Value} {acc : List Word} {wr : World} (h : RunI w l acc0 j lo v acc wr) (hj : j < l.length) (hc : l[j] ≠ 32) : RunI w l acc0 (j + 1) lo v acc wr := by
  refine ⟨h.sl, h.fr, by have := h.len; omega, .inl ⟨by omega, ?_⟩⟩
  obtain ⟨-, hlo, hw⟩ := h.at_.resolve_right (fun e => by omega)
  refine ⟨by omega, ?_⟩
  rw [hw, List.drop_eq_getElem_cons hj, runsGo, if_neg hc, take_drop_snoc l j lo hj hlo]
theorem RunI.word {w : World} {l : Word} {acc0 : List Word} {j lo : Nat} {v : Value} {acc : List Word} {wr : World} (h : RunI w l acc0 j lo v acc wr) (hj : j ≤ l.length) (hc : ∀ h : j < l.length, l[j] = 32)
    {v' : Value} {wr' : World} (h1 : SlW wr' v' (addR acc ((l.take j).drop lo))) (h3 : Fr No wr wr') : RunI w l acc0 (j + 1) (j + 1) v' (addR acc ((l.take j).drop lo)) wr' := by
  refine ⟨h1, h.fr.trans h3, by have := h.len; have := addR_len acc ((l.take j).drop lo); omega, ?_⟩
  obtain ⟨-, hlo, hw⟩ := h.at_.resolve_right (fun e => by omega)
  by_cases hlt : j < l.length
  · left
    refine ⟨by omega, Nat.le_refl _, ?_⟩
    rw [hw, List.drop_eq_getElem_cons hlt, runsGo, if_pos (hc hlt), List.drop_take_self]
  · right
    have e : j = l.length := by omega
    refine ⟨by omega, ?_⟩
    have e2 : l.drop j = [] := List.drop_of_length_le (by omega)
    rw [hw, e2, runsGo]
def WordsPost (w : World) (L : List Word) (e : Ending) (w' : World) : Prop := ∃ v, e = .returned v ∧ SlW w' v L ∧ Fr No w w'


/-- The words of a text, each once, ascending. -/
def wordsL (l : Word) : List Word := runsGo l [] []
set_option maxHeartbeats 1000000 in
theorem apiWords_any (l : Word) (w : World) (hlen : l.length ≤ 500) : Calls Tryz.prog 95 #[.string (str l)] w (WordsPost w (wordsL l)) := by
  have HX : Hid (∀ (v : Value) (L : List Word) (u : Word) (w' : World), SlW w' v L → L.length ≤ 1000 → Calls Tryz.prog 96 #[v, .string (str u)] w' fun e w'' => ∃ v', e = .returned v' ∧ SlW w'' v' (into L u) ∧ Fr No w' w'') := fun v L u w' h1 h2 => (into_any v L u w' h1 h2).mono fun e w'' ⟨v', e1, e2, e3, _⟩ => ⟨v', e1, e2, e3⟩
  have H0 : Hid (RunI w l [] 0 0 (.slice none 0 0) [] w) := ⟨.inl ⟨rfl, rfl⟩, Fr.refl _ _, by simp, .inl ⟨Nat.zero_le _, Nat.le_refl _, rfl⟩⟩
  go_enter Tryz.func95, Tryz.ntmps95
  go_wp2
  go_loopw [3, 4, 5] (fun v lo k wr => ∃ (j lo' : Nat) (acc : List Word), lo = .int .i64 lo' ∧ k = .int .i64 j ∧ j ≤ l.length + 1 ∧ RunI w l [] j lo' v acc wr) (fun _ _ k _ => l.length + 1 - (intOf k).toNat)
  case atStart => exact ⟨0, 0, _, rfl, rfl, by omega, H0.out⟩
  case round =>
    obtain ⟨j, lo, acc, rfl, rfl, hj, hI⟩ := hrel
    by_cases hle : j ≤ l.length
    · obtain ⟨-, hlo, hw⟩ := hI.at_.resolve_right (fun h => by omega)
      have hlo' : (lo : Int) ≤ (j : Int) := by omega
      have hsl : ∀ wx, (Instr.slice 9 (.string (str l)) (some (.int .i64 lo)) (some (.int .i64 j)) none).run Tryz.prog wx = .ok (.string (str ((l.take j).drop lo))) wx := by
        intro wx
        rw [run_slice_string (P := Tryz.prog) wx 9 (str l) .i64 .i64 lo j Tryz.underlying9 (by omega) (by omega) (by rw [str_size]; omega)]
        rw [Int.toNat_natCast, Int.toNat_natCast, str_extract]
      have hlenc : ((l.take j).drop lo).length = j - lo := by simp; omega
      by_cases hcase : ∃ h : j < l.length, l[j] ≠ 32
      · obtain ⟨hlt', hne⟩ := hcase
        have HK : Hid (RunI w l [] (j + 1) lo u3 acc wr) := hI.letter hlt' hne
        have hv : ((((str l)[j]'(by rw [str_size]; exact hlt')).toNat : Int) != 32) = true := by
          rw [str_get]
          simp only [bne_iff_ne, ne_eq]
          intro e
          exact hne (UInt8.toNat_inj.1 (by simpa using (by omega : l[j].toNat = 32)))
        have hd : decide ((j : Int) < (l.length : Int)) = true := by simp; omega
        have hd' : (j : Int) < (l.length : Int) := by omega
        clear hI hw hsl hlenc
        go_wp2
        go_roundw
        case rel => exact ⟨j + 1, lo, acc, rfl, by go_num, by omega, HK.out⟩
        case measure => simp [intOf]; omega
      · have HC : Hid (∀ h : j < l.length, l[j] = 32) := fun h => by
          rcases Classical.em (l[j] = 32) with e | e
          · exact e
          · exact absurd ⟨h, e⟩ hcase
        have hd : (decide ((j : Int) < (l.length : Int)) = false ∧ ¬ (j : Int) < (l.length : Int)) ∨ (∃ h : j < l.length, decide ((j : Int) < (l.length : Int)) = true ∧ (j : Int) < (l.length : Int) ∧ ((((str l)[j]'(by rw [str_size]; exact h)).toNat : Int) != 32) = false) := by
          by_cases hlt : j < l.length
          · right; refine ⟨hlt, by simp; omega, by omega, ?_⟩
            rw [str_get]
            have := HC.out hlt
            simp [this]
          · left; exact ⟨by simp; omega, by omega⟩
        have HW : Hid (∀ {v' : Value} {wr' : World}, SlW wr' v' (addR acc ((l.take j).drop lo)) → Fr No wr wr' → RunI w l [] (j + 1) (j + 1) v' (addR acc ((l.take j).drop lo)) wr') := fun h1 h2 => hI.word hle HC.out h1 h2
        have HII : Hid (RunI w l [] j lo u3 acc wr) := hI
        have hacc : acc.length ≤ 1000 := by have := hI.len; simp only [List.length_nil] at this; omega
        have hgl : (lo < j ∧ (l.take j).drop lo ≠ []) ∨ (¬ lo < j ∧ (l.take j).drop lo = []) := by
          by_cases h : lo < j
          · exact .inl ⟨h, fun e => by rw [e] at hlenc; simp at hlenc; omega⟩
          · exact .inr ⟨h, List.eq_nil_of_length_eq_zero (by omega)⟩
        generalize (l.take j).drop lo = cur at *
        clear hI hw hcase HC
        rcases hgl with ⟨hg, hcn⟩ | ⟨hg, hcn⟩
        · have hgd : decide ((lo : Int) < (j : Int)) = true := by simp; omega
          have HE : Hid (addR acc cur = into acc cur) := by unfold Hid addR; rw [if_neg hcn]
          have HX2 : Hid (Calls Tryz.prog 96 #[u3, .string (str cur)] wr fun e w'' => ∃ v', e = .returned v' ∧ SlW w'' v' (into acc cur) ∧ Fr No wr w'') := HX.out u3 acc cur wr HII.out.sl hacc
          clear hcn
          rcases hd with ⟨hd, hd2⟩ | ⟨hlt, hd, hd2, hd3⟩
          all_goals
            go_wp2_with (go_at_call 96; refine HX2.out.mono ?_; rintro e w1 ⟨v', rfl, h1, f1⟩
                         have HK : Hid (RunI w l [] (j + 1) (j + 1) v' (addR acc cur) w1) := HW.out (by rw [HE.out]; exact h1) f1
                         clear h1 f1)
            go_roundw
            case rel => exact ⟨j + 1, j + 1, _, by go_num, by go_num, by omega, HK.out⟩
            case measure => simp [intOf]; omega
        · have hgd : decide ((lo : Int) < (j : Int)) = false := by simp; omega
          have HK : Hid (RunI w l [] (j + 1) (j + 1) u3 (addR acc cur) wr) := HW.out (by unfold addR; rw [if_pos hcn]; exact HII.out.sl) (Fr.refl _ _)
          clear hcn
          rcases hd with ⟨hd, hd2⟩ | ⟨hlt, hd, hd2, hd3⟩
          all_goals
            go_wp2
            go_roundw
            case rel => exact ⟨j + 1, j + 1, _, by go_num, by go_num, by omega, HK.out⟩
            case measure => simp [intOf]; omega
    · obtain ⟨hj1, hacc⟩ := hI.at_.resolve_left (fun h => by omega)
      have HK : Hid (WordsPost w (wordsL l) (.returned u3) wr) := ⟨u3, rfl, by unfold wordsL; rw [← hacc]; exact hI.sl, hI.fr⟩
      have hd : ¬ (j : Int) ≤ (l.length : Int) := by omega
      clear hI hacc hj1
      go_wp2
      go_ret
      exact HK.out
theorem wordsL_mem (l u : Word) : u ∈ wordsL l ↔ u ∈ wordsOf l := by
  unfold wordsL
  rw [runsGo_run u l [] [] (by simp), wordsOf_run]
  simp
theorem wordsL_sorted (l : Word) : (wordsL l).Pairwise (· < ·) := runsGo_sorted l [] [] List.Pairwise.nil
theorem wordsL_len (l : Word) : (wordsL l).length ≤ l.length + 1 := by have := runsGo_len l [] []; unfold wordsL; simpa using this

set_option maxHeartbeats 1000000 in
theorem holds_any (l u : Word) (w : World) (hlen : l.length ≤ 500) : Calls Tryz.prog 103 #[.string (str l), .string (str u)] w fun e w' => e = .returned (.bool (decide (u ∈ wordsOf l))) ∧ Fr No w w' := by
  have HW : Hid (Calls Tryz.prog 95 #[.string (str l)] w (WordsPost w (wordsL l))) := apiWords_any l w hlen
  have HB : Hid (decide (u ∈ wordsOf l) = decide (u ∈ wordsL l)) := by rw [Hid, Bool.eq_iff_iff, decide_eq_true_eq, decide_eq_true_eq, wordsL_mem]
  have hl := wordsL_len l
  rw [HB.out]
  clear HB
  generalize wordsL l = L at *
  obtain ⟨n, hn⟩ : ∃ n, L.length = n := ⟨_, rfl⟩
  have HN : Hid (L.length = n) := hn
  rw [hn] at hl
  clear hn
  have HD : Hid (∀ b, decide (u ∈ L) = b → ∀ W, Fr No w W → (fun e w' => e = Ending.returned (.bool (decide (u ∈ L))) ∧ Fr No w w') (.returned (.bool b)) W) := fun b hb W f => ⟨by rw [hb], f⟩
  generalize hbb : decide (u ∈ L) = bb at *
  have HBB : Hid (decide (u ∈ L) = bb) := hbb
  clear hbb
  go_enter Tryz.func103, Tryz.ntmps103
  go_wp2_with (go_at_call 95; refine HW.out.mono ?_; rintro e w1 ⟨v, rfl, hv, f1⟩
               obtain ⟨a0, cap, rfl, hc⟩ := hv.sl
               simp only [List.length_map, HN.out])
  have HC : Hid (∀ i (h : i < L.length), ∃ g o, a0 = some ⟨g, o, none⟩ ∧ w1.cell? ⟨g, o + i, none⟩ = some (.string (str L[i]))) := fun i h => by
    obtain ⟨g, o, e1, e2⟩ := hc i (.string (str L[i])) (by simp [h])
    exact ⟨g, o, e1, e2⟩
  clear hc
  go_loop [6] (fun i => ∃ j : Nat, j ≤ n ∧ i = .int .i64 j ∧ Hid (u ∉ L.take j)) (fun i => n - (intOf i).toNat)
  case atStart => exact ⟨0, Nat.zero_le _, rfl, by rw [Hid]; simp⟩
  case round =>
    obtain ⟨j, hj, rfl, hno⟩ := hrel
    by_cases hlt : j < n
    · have hjl : j < L.length := by rw [HN.out]; exact hlt
      obtain ⟨g, o, rfl, hcj⟩ := HC.out j hjl
      have hd1 : (j : Int) < (n : Int) := by omega
      by_cases he : L[j] = u
      · have hb : ((str L[j]).toList == (str u).toList) = true := by rw [str_toList, str_toList]; simpa using he
        have HE : Hid (bb = true) := by rw [Hid, ← HBB.out, decide_eq_true_eq, ← he]; exact List.getElem_mem hjl
        clear he
        generalize L[j] = lj at *
        go_wp2
        go_ret
        exact ⟨by rw [HE.out]; rfl, f1⟩
      · have hb : ((str L[j]).toList == (str u).toList) = false := by rw [str_toList, str_toList]; simpa using he
        have HK : Hid (u ∉ L.take (j + 1)) := by
          rw [Hid, take_snoc L j hjl, List.mem_append, List.mem_singleton]
          rintro (h | h)
          · exact hno.out h
          · exact he h.symm
        clear he
        generalize L[j] = lj at *
        go_wp2
        go_round
        case rel => exact ⟨j + 1, by omega, by go_num, HK⟩
        case measure => simp [intOf]; omega
    · have HE : Hid (bb = false) := by
        rw [Hid, ← HBB.out, decide_eq_false_iff_not]
        have := hno.out
        rw [List.take_of_length_le (by rw [HN.out]; omega)] at this
        exact this
      have hd1 : ¬ (j : Int) < (n : Int) := by omega
      go_wp2
      go_ret
      exact ⟨by rw [HE.out]; rfl, f1⟩
end Go.Proofs.Qxb6500357aGreat
