import Derived.Test.Qxb6500357aInto
import Derived.Test.Qxb6500357aHold
namespace Go.Tag
set_option linter.unusedVariables false
set_option linter.unusedSimpArgs false
def addR (acc : List Word) (u : Word) : List Word := if u = [] then acc else into acc u
/-- The runs of a text, laid into acc. -/
def runsGo : Word → Word → List Word → List Word
  | [], cur, acc => addR acc cur
  | c :: t, cur, acc => if c = 32 then runsGo t [] (addR acc cur) else runsGo t (cur ++ [c]) acc
theorem addR_mem {acc : List Word} {u v : Word} : v ∈ addR acc u ↔ v ∈ acc ∨ (v = u ∧ u ≠ []) := by
  unfold addR
  by_cases h : u = []
  · rw [if_pos h]
    constructor
    · exact .inl
    · rintro (h' | ⟨_, h'⟩)
      · exact h'
      · exact absurd h h'
  · rw [if_neg h, into_mem]
    constructor
    · rintro (h' | h')
      · exact .inr ⟨h', h⟩
      · exact .inl h'
    · rintro (h' | ⟨h', _⟩)
      · exact .inr h'
      · exact .inl h'
theorem addR_sorted {acc : List Word} (u : Word) (h : acc.Pairwise (· < ·)) : (addR acc u).Pairwise (· < ·) := by
  unfold addR; split
  · exact h
  · exact into_sorted u acc h
theorem addR_len (acc : List Word) (u : Word) : (addR acc u).length ≤ acc.length + 1 := by
  unfold addR; split
  · omega
  · exact into_len u acc
theorem runsGo_run (u : Word) : ∀ (t cur : Word) (acc : List Word), (32 : UInt8) ∉ cur → (u ∈ runsGo t cur acc ↔ u ∈ acc ∨ IsRun (cur ++ t) u)
  | [], cur, acc, hc => by
    unfold runsGo
    rw [addR_mem, List.append_nil, isRun_whole hc]
  | c :: t, cur, acc, hc => by
    unfold runsGo
    by_cases h : c = 32
    · subst h
      rw [if_pos rfl, runsGo_run u t [] (addR acc cur) (by simp), addR_mem, isRun_blank hc, List.nil_append]
      constructor
      · rintro ((h | ⟨rfl, h⟩) | h)
        · exact .inl h
        · exact .inr (.inl ⟨rfl, h⟩)
        · exact .inr (.inr h)
      · rintro (h | ⟨rfl, h⟩ | h)
        · exact .inl (.inl h)
        · exact .inl (.inr ⟨rfl, h⟩)
        · exact .inr h
    · rw [if_neg h, runsGo_run u t (cur ++ [c]) acc (by simp only [List.mem_append, List.mem_singleton, not_or]; exact ⟨hc, Ne.symm h⟩)]
      simp
theorem runsGo_sorted : ∀ (t cur : Word) (acc : List Word), acc.Pairwise (· < ·) → (runsGo t cur acc).Pairwise (· < ·)
  | [], cur, acc, h => addR_sorted cur h
  | c :: t, cur, acc, h => by
    unfold runsGo; split
    · exact runsGo_sorted t [] _ (addR_sorted cur h)
    · exact runsGo_sorted t _ _ h
theorem runsGo_len : ∀ (t cur : Word) (acc : List Word), (runsGo t cur acc).length ≤ acc.length + t.length + 1
  | [], cur, acc => by have := addR_len acc cur; simp [runsGo]; omega
  | c :: t, cur, acc => by
    unfold runsGo; split
    · have h1 := runsGo_len t [] (addR acc cur); have h2 := addR_len acc cur; simp; omega
    · have h1 := runsGo_len t (cur ++ [c]) acc; simp; omega
/-- The runs of the texts below place j. -/
def runsTo (s : St) (j : Nat) : List Word := (idsTo j).foldl (fun acc i => runsGo (s.textOf i) [] acc) []
theorem runsTo_one (s : St) : runsTo s 1 = [] := rfl
theorem runsTo_succ (s : St) (j : Nat) (h : 1 ≤ j) : runsTo s (j + 1) = runsGo (s.textOf (j : Int)) [] (runsTo s j) := by
  unfold runsTo; rw [idsTo_succ j h, List.foldl_append]; rfl
theorem runsFold_sorted (s : St) : ∀ (l : List Int) (acc : List Word), acc.Pairwise (· < ·) → (l.foldl (fun acc i => runsGo (s.textOf i) [] acc) acc).Pairwise (· < ·)
  | [], acc, h => h
  | i :: l, acc, h => runsFold_sorted s l _ (runsGo_sorted _ [] acc h)
theorem runsFold_mem (s : St) (u : Word) : ∀ (l : List Int) (acc : List Word), (u ∈ l.foldl (fun acc i => runsGo (s.textOf i) [] acc) acc ↔ u ∈ acc ∨ ∃ i ∈ l, IsRun (s.textOf i) u)
  | [], acc => by simp
  | i :: l, acc => by
    rw [List.foldl_cons, runsFold_mem s u l, runsGo_run u _ [] acc (by simp), List.nil_append]
    constructor
    · rintro ((h | h) | ⟨j, hj, h⟩)
      · exact .inl h
      · exact .inr ⟨i, by simp, h⟩
      · exact .inr ⟨j, by simp [hj], h⟩
    · rintro (h | ⟨j, hj, h⟩)
      · exact .inl (.inl h)
      · rcases List.mem_cons.1 hj with rfl | hj
        · exact .inl (.inr h)
        · exact .inr ⟨j, hj, h⟩
theorem runsTo_ten (s : St) : runsTo s 10 = s.words := by
  refine sorted_unique (lt := fun a b : Word => a < b) wlt_irr wlt_as _ _ (runsFold_sorted s _ _ List.Pairwise.nil) (words_sorted s) (fun u => ?_)
  unfold runsTo St.words
  rw [runsFold_mem, intoAll_mem, idsTo_ten]
  simp only [List.not_mem_nil, false_or, List.mem_flatMap, wordsOf_run]
end Go.Tag
namespace Go.Proofs.Qxb6500357a
open Go.RowKit Go.Tag
set_option linter.unusedVariables false
set_option linter.unusedSimpArgs false
set_option maxRecDepth 100000
attribute [local simp] str_size
attribute [local go_sem] str_size

/-- The inner loop: text l, from acc0. -/
structure RunI (w : World) (l : Word) (acc0 : List Word) (j lo : Nat) (v : Value) (acc : List Word) (wr : World) : Prop where
  sl : SlW wr v acc
  fr : Fr No w wr
  len : acc.length ≤ acc0.length + j
  at_ : (j ≤ l.length ∧ lo ≤ j ∧ runsGo l [] acc0 = runsGo (l.drop j) ((l.take j).drop lo) acc) ∨ (j = l.length + 1 ∧ acc = runsGo l [] acc0)
theorem RunI.letter {w : World} {l : Word} {acc0 : List Word} {j lo : Nat} {v : Value} {acc : List Word} {wr : World} (h : RunI w l acc0 j lo v acc wr) (hj : j < l.length) (hc : l[j] ≠ 32) : RunI w l acc0 (j + 1) lo v acc wr := by
  refine ⟨h.sl, h.fr, by have := h.len; omega, .inl ⟨by omega, ?_⟩⟩
  obtain ⟨-, hlo, hw⟩ := h.at_.resolve_right (fun e => by omega)
  refine ⟨by omega, ?_⟩
  rw [hw, List.drop_eq_getElem_cons hj, runsGo, if_neg hc, take_drop_snoc l j lo hj hlo]
theorem RunI.word {w : World} {l : Word} {acc0 : List Word} {j lo : Nat} {v : Value} {acc : List Word} {wr : World} (h : RunI w l acc0 j lo v acc wr) (hj : j ≤ l.length) (hc : ∀ h : j < l.length, l[j] = 32)
    {v' : Value} {wr' : World} (h1 : SlW wr' v' (addR acc ((l.take j).drop lo))) (h3 : Fr No wr wr') : RunI w l acc0 (j + 1) (j + 1) v' (addR acc ((l.take j).drop lo)) wr' := by
  refine ⟨h1, h.fr.trans h3, by have := h.len; have := addR_len acc ((l.take j).drop lo); omega, ?_⟩
  obtain ⟨-, hlo, hw⟩ := h.at_.resolve_right (fun e => by omega)
  by_cases hlt : j < l.length
  · left
    refine ⟨by omega, Nat.le_refl _, ?_⟩
    rw [hw, List.drop_eq_getElem_cons hlt, runsGo, if_pos (hc hlt), List.drop_take_self]
  · right
    have e : j = l.length := by omega
    refine ⟨by omega, ?_⟩
    have e2 : l.drop j = [] := List.drop_of_length_le (by omega)
    rw [hw, e2, runsGo]
def WordsPost (w : World) (L : List Word) (e : Ending) (w' : World) : Prop := ∃ v, e = .returned v ∧ SlW w' v L ∧ Fr No w w'

set_option maxHeartbeats 1000000 in
theorem runs_any (gb t0 g0 x0 p0 : Nat) (s : St) (B : Int) (w : World) (h : GhostAt w gb t0 g0 x0 p0 s) (hf : Fine s B) : Calls Try.prog 16 #[.pointer (some ⟨gb, 0, none⟩)] w (WordsPost w s.words) := by
  have HG : Hid (∀ wr, Fr No w wr → GhostAt wr gb t0 g0 x0 p0 s) := fun wr f => GhostR.fr h f (fun _ _ h => h)
  have HL : Hid (gb < w.heap.size) := GhostR.lt h gb (.inl rfl)
  have HF : Hid (Fine s B) := hf
  have HX : Hid (∀ (v : Value) (L : List Word) (u : Word) (w' : World), SlW w' v L → L.length ≤ 1000 → Calls Try.prog 43 #[v, .string (str u)] w' fun e w'' => ∃ v', e = .returned v' ∧ SlW w'' v' (into L u) ∧ Fr No w' w'') := fun v L u w' h1 h2 => into_any v L u w' h1 h2
  clear h hf
  go_enter Try.func16, Try.ntmps16
  go_wp2
  go_loopw [3, 4] (fun v i wr => ∃ j : Nat, (1 ≤ j ∧ j ≤ 10) ∧ i = .int .i64 j ∧ SlW wr v (runsTo s j) ∧ Hid ((runsTo s j).length ≤ 13 * (j - 1)) ∧ Fr No w wr) (fun _ i _ => 10 - (intOf i).toNat)
  case atStart => exact ⟨1, by omega, rfl, .inl ⟨rfl, rfl⟩, by rw [Hid, runsTo_one]; simp, Fr.refl _ _⟩
  case round =>
    obtain ⟨i, hi, rfl, hsl, hlen, hfr⟩ := hrel
    have hG := HG.out wr hfr
    have hgw : gb < wr.heap.size := Nat.lt_of_lt_of_le HL.out hfr.size
    obtain ⟨c0, c1, c2, c3, c4⟩ := GhostR.cells hG
    by_cases hlt : i ≤ 9
    · have cx := hG.text.cell (i := i) (by omega)
      unfold gX at cx
      have hl9 : (i : Int) ≤ 9 := by omega
      have hi1 : 1 ≤ i := hi.1
      have htl := textOf_len HF.out (i : Int)
      have HN : Hid (runsTo s (i + 1) = runsGo (s.textOf (i : Int)) [] (runsTo s i)) := runsTo_succ s i hi.1
      have HA : Hid ((runsTo s i).length ≤ 120) := by have := hlen.out; show (runsTo s i).length ≤ 120; omega
      have HA2 : Hid ((runsTo s (i + 1)).length ≤ 13 * (i + 1 - 1)) := by
        rw [Hid, HN.out]
        have h1 := runsGo_len (s.textOf (i : Int)) [] (runsTo s i)
        have h2 := hlen.out
        omega
      obtain ⟨wo, hwo⟩ : ∃ wo, wo = wr := ⟨_, rfl⟩
      subst hwo
      have H0 : Hid (RunI w (s.textOf (i : Int)) (runsTo s i) 0 0 u3 (runsTo s i) wo) := ⟨hsl, hfr, by omega, .inl ⟨Nat.zero_le _, Nat.le_refl _, rfl⟩⟩
      generalize runsTo s i = acc0 at *
      generalize s.textOf (i : Int) = l at *
      clear hsl hfr hG
      go_wp2
      go_loopw [3, 6, 7] (fun v lo k wr => ∃ (j lo' : Nat) (acc : List Word), lo = .int .i64 lo' ∧ k = .int .i64 j ∧ j ≤ l.length + 1 ∧ RunI w l acc0 j lo' v acc wr) (fun _ _ k _ => l.length + 1 - (intOf k).toNat)
      case atStart => exact ⟨0, 0, _, rfl, rfl, by omega, H0.out⟩
      case round =>
        obtain ⟨j, lo, acc, rfl, rfl, hj, hI⟩ := hrel
        by_cases hle : j ≤ l.length
        · obtain ⟨-, hlo, hw⟩ := hI.at_.resolve_right (fun h => by omega)
          have hlo' : (lo : Int) ≤ (j : Int) := by omega
          have hsl : ∀ wx, (Instr.slice 9 (.string (str l)) (some (.int .i64 lo)) (some (.int .i64 j)) none).run Try.prog wx = .ok (.string (str ((l.take j).drop lo))) wx := by
            intro wx
            rw [run_slice_string (P := Try.prog) wx 9 (str l) .i64 .i64 lo j Try.underlying9 (by omega) (by omega) (by rw [str_size]; omega)]
            rw [Int.toNat_natCast, Int.toNat_natCast, str_extract]
          have hlenc : ((l.take j).drop lo).length = j - lo := by simp; omega
          by_cases hcase : ∃ h : j < l.length, l[j] ≠ 32
          · obtain ⟨hlt', hne⟩ := hcase
            have HK : Hid (RunI w l acc0 (j + 1) lo u3 acc wr) := hI.letter hlt' hne
            have hv : ((((str l)[j]'(by rw [str_size]; exact hlt')).toNat : Int) != 32) = true := by
              rw [str_get]
              simp only [bne_iff_ne, ne_eq]
              intro e
              exact hne (UInt8.toNat_inj.1 (by simpa using (by omega : l[j].toNat = 32)))
            have hd : decide ((j : Int) < (l.length : Int)) = true := by simp; omega
            have hd' : (j : Int) < (l.length : Int) := by omega
            clear hI hw hsl hlenc
            go_wp2
            go_roundw
            case rel => exact ⟨j + 1, lo, acc, rfl, by go_num, by omega, HK.out⟩
            case measure => simp [intOf]; omega
          · have HC : Hid (∀ h : j < l.length, l[j] = 32) := fun h => by
              rcases Classical.em (l[j] = 32) with e | e
              · exact e
              · exact absurd ⟨h, e⟩ hcase
            have hd : (decide ((j : Int) < (l.length : Int)) = false ∧ ¬ (j : Int) < (l.length : Int)) ∨ (∃ h : j < l.length, decide ((j : Int) < (l.length : Int)) = true ∧ (j : Int) < (l.length : Int) ∧ ((((str l)[j]'(by rw [str_size]; exact h)).toNat : Int) != 32) = false) := by
              by_cases hlt : j < l.length
              · right; refine ⟨hlt, by simp; omega, by omega, ?_⟩
                rw [str_get]
                have := HC.out hlt
                simp [this]
              · left; exact ⟨by simp; omega, by omega⟩
            have HW : Hid (∀ {v' : Value} {wr' : World}, SlW wr' v' (addR acc ((l.take j).drop lo)) → Fr No wr wr' → RunI w l acc0 (j + 1) (j + 1) v' (addR acc ((l.take j).drop lo)) wr') := fun h1 h2 => hI.word hle HC.out h1 h2
            have HII : Hid (RunI w l acc0 j lo u3 acc wr) := hI
            have hacc : acc.length ≤ 1000 := by have := hI.len; have := HA.out; omega
            have hgl : (lo < j ∧ (l.take j).drop lo ≠ []) ∨ (¬ lo < j ∧ (l.take j).drop lo = []) := by
              by_cases h : lo < j
              · exact .inl ⟨h, fun e => by rw [e] at hlenc; simp at hlenc; omega⟩
              · exact .inr ⟨h, List.eq_nil_of_length_eq_zero (by omega)⟩
            generalize (l.take j).drop lo = cur at *
            clear hI hw hcase HC
            rcases hgl with ⟨hg, hcn⟩ | ⟨hg, hcn⟩
            · have hgd : decide ((lo : Int) < (j : Int)) = true := by simp; omega
              have HE : Hid (addR acc cur = into acc cur) := by unfold Hid addR; rw [if_neg hcn]
              have HX2 : Hid (Calls Try.prog 43 #[u3, .string (str cur)] wr fun e w'' => ∃ v', e = .returned v' ∧ SlW w'' v' (into acc cur) ∧ Fr No wr w'') := HX.out u3 acc cur wr HII.out.sl hacc
              clear hcn
              rcases hd with ⟨hd, hd2⟩ | ⟨hlt, hd, hd2, hd3⟩
              all_goals
                go_wp2_with (go_at_call 43; refine HX2.out.mono ?_; rintro e w1 ⟨v', rfl, h1, f1⟩
                             have HK : Hid (RunI w l acc0 (j + 1) (j + 1) v' (addR acc cur) w1) := HW.out (by rw [HE.out]; exact h1) f1
                             clear h1 f1)
                go_roundw
                case rel => exact ⟨j + 1, j + 1, _, by go_num, by go_num, by omega, HK.out⟩
                case measure => simp [intOf]; omega
            · have hgd : decide ((lo : Int) < (j : Int)) = false := by simp; omega
              have HK : Hid (RunI w l acc0 (j + 1) (j + 1) u3 (addR acc cur) wr) := HW.out (by unfold addR; rw [if_pos hcn]; exact HII.out.sl) (Fr.refl _ _)
              clear hcn
              rcases hd with ⟨hd, hd2⟩ | ⟨hlt, hd, hd2, hd3⟩
              all_goals
                go_wp2
                go_roundw
                case rel => exact ⟨j + 1, j + 1, _, by go_num, by go_num, by omega, HK.out⟩
                case measure => simp [intOf]; omega
        · obtain ⟨hj1, hacc⟩ := hI.at_.resolve_left (fun h => by omega)
          have HK : Hid (SlW wr u3 (runsTo s (i + 1)) ∧ Fr No w wr) := ⟨by rw [HN.out, ← hacc]; exact hI.sl, hI.fr⟩
          have hd : ¬ (j : Int) ≤ (l.length : Int) := by omega
          clear hI hacc hj1
          go_wp2
          go_roundw
          case rel => exact ⟨i + 1, by omega, by go_num, HK.out.1, HA2, HK.out.2⟩
          case measure => simp [intOf]; omega
    · have hi10 : i = 10 := by omega
      subst hi10
      have HE : Hid (WordsPost w s.words (.returned u3) wr) := ⟨u3, rfl, by rw [← runsTo_ten]; exact hsl, hfr⟩
      clear hsl hfr hG hlen
      go_wp2
      go_ret
      exact HE.out
end Go.Proofs.Qxb6500357a
