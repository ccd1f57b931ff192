import Derived.Test.Qxb6500357aLow
import Derived.BigQuiet
import Derived.Deep.RegionHeld3
import Derived.Deep.CutRange
namespace Go.Tag
open Go.Proofs.Qxb6500357a
set_option linter.unusedVariables false
set_option linter.unusedSimpArgs false
theorem rank_sorted (c : Word → Nat) {ks : List Word} (hn : ks.Nodup) : (rankL c ks).Pairwise (fun a b => aheadC c a b = true) := rankAll_sorted c ks [] hn (by simp) List.Pairwise.nil
theorem rank_mem (c : Word → Nat) (ks : List Word) (u : Word) : u ∈ rankL c ks ↔ u ∈ ks := by unfold rankL; rw [rankAll_mem]; simp
theorem rank_length (c : Word → Nat) (ks : List Word) : (rankL c ks).length = ks.length := by
  have h1 : ∀ (u : Word) (l : List Word), (rankIns c l u).length = l.length + 1 := by
    intro u l
    induction l with
    | nil => rfl
    | cons a l ih => unfold rankIns; split <;> simp [ih]
  have h2 : ∀ (ks acc : List Word), (rankAll c acc ks).length = acc.length + ks.length := by
    intro ks
    induction ks with
    | nil => intro acc; simp [rankAll]
    | cons u ks ih =>
      intro acc
      have := ih (rankIns c acc u)
      unfold rankAll at this ⊢
      rw [List.foldl_cons, this, h1]; simp; omega
  unfold rankL; rw [h2]; simp
/-- What is left out of the head goes behind its last. -/
theorem rank_left (c : Word → Nat) {ks : List Word} (hn : ks.Nodup) (u : Word) (hu : u ∈ ks) (k i : Nat) (hi : i < ((rankL c ks).take k).length) (hno : u ∉ (rankL c ks).take k) : aheadC c ((rankL c ks).take k)[i] u = true := by
  have hs := rank_sorted c hn
  have hm : u ∈ (rankL c ks).drop k := by
    have := (rank_mem c ks u).2 hu
    rw [← List.take_append_drop k (rankL c ks)] at this
    exact (List.mem_append.1 this).resolve_left hno
  rw [← List.take_append_drop k (rankL c ks), List.pairwise_append] at hs
  exact hs.2.2 _ (List.getElem_mem hi) u hm
end Go.Tag
namespace Go.Proofs.Qxb6500357a
open Go.RowKit Go.Tag
set_option linter.unusedVariables false
set_option linter.unusedSimpArgs false
set_option maxRecDepth 100000
attribute [local simp] str_size
attribute [local go_sem] str_size

def lastC (c : Word → Nat) (L : List Word) (i : Nat) : Nat := match i with | 0 => 0 | i + 1 => c (L.getD i [])
theorem lastC_succ (c : Word → Nat) (L : List Word) (i : Nat) (h : i < L.length) : lastC c L (i + 1) = c L[i] := by unfold lastC; simp [h]

set_option maxHeartbeats 4000000 in
theorem topOrder_any (y x : Nat) (F : Nat → Prop) (s : St) (B : Int) (k : Int) (w : World) (h : QAt w F y x s) (hf : Fine s B) :
    Calls Try.prog 58 #[belV x, .pointer (some ⟨y, 0, none⟩), .int .i64 k] w fun e w' => e = .returned (.bool true) ∧ Fr No w w' := by
  have HQ : Hid (∀ w', Fr No w w' → QAt w' F y x s) := fun w' f => ⟨f.heap h.1 (fun h => h), h.2.frNo f⟩
  have HT : Hid (∀ w' k, Fr No w w' → Calls Try.prog 18 #[.pointer (some ⟨y, 0, none⟩), .int .i64 k] w' fun e w'' => ∃ v, e = .returned (.tuple #[v, .int .i64 (topErr k)]) ∧ SlW w'' v (topL s k) ∧ Fr No w' w'') := fun w' k f =>
    (top_any y x F s B k w' (HQ.out w' f) hf).mono fun e w'' ⟨v, h1, h2, h3, _⟩ => ⟨v, h1, SlW.own h2, h3⟩
  have HK : Hid (∀ w', Fr No w w' → Calls Try.prog 83 #[.agg #[.pointer (some ⟨x, 0, none⟩)]] w' fun e w'' => ∃ v, e = .returned v ∧ Sl w'' v (s.words.map fun s => Value.string (str s)) ∧ Fr No w' w'') := fun w' f => known_all x F s B w' (HQ.out w' f).2 hf
  have HH : Hid (∀ w' u, Fr No w w' → Calls Try.prog 80 #[.agg #[.pointer (some ⟨x, 0, none⟩)], .string (str u)] w' fun e w'' => ∃ v, e = .returned v ∧ Sl w'' v ((s.holders u).map (Value.int .i64)) ∧ Fr No w' w'') := fun w' u f => holdersB_any x F s B u w' (HQ.out w' f).2 hf
  have HA : Hid (∀ w' u, Fr No w w' → u ∈ s.words → Calls Try.prog 79 #[.pointer (some ⟨y, 0, none⟩), .string (str u)] w' fun e w'' => ∃ v, e = .returned v ∧ Sl w'' v ((s.holders u).map (Value.int .i64)) ∧ Fr No w' w'') := fun w' u f hu => all_any y x F s B u w' (HQ.out w' f) hf (word_short hf u hu)
  have hwl := words_len hf
  have HC6 : Hid (∀ u ∈ s.words, 1 ≤ cntW (hasOf s) u ∧ cntW (hasOf s) u ≤ 9) := fun u hu => ⟨by have := (words_mem s u).1 hu; omega, cntW_le _ u⟩
  have HHL : Hid (∀ u, (s.holders u).length = cntW (hasOf s) u ∧ cntW (hasOf s) u ≤ 9) := fun u => ⟨rfl, cntW_le _ u⟩
  have HWS : Hid (∀ u ∈ s.words, u.length ≤ 1000) := fun u hu => by have := word_short hf u hu; omega
  have HTK : Hid (∀ k : Int, 0 ≤ k ∧ k ≤ 4 → topL s k = (rankL (cntW (hasOf s)) s.words).take k.toNat) := fun k hk => by unfold topL; rw [if_pos hk]
  have HRL : Hid (∀ k : Nat, ((rankL (cntW (hasOf s)) s.words).take k).length = min k s.words.length) := fun k => by rw [List.length_take, rank_length]
  have HSO : Hid (∀ k : Nat, ((rankL (cntW (hasOf s)) s.words).take k).Pairwise (fun a b => aheadC (cntW (hasOf s)) a b = true)) := fun k => (rank_sorted _ (words_nodup s)).sublist (List.take_sublist _ _)
  have HME : Hid (∀ (k : Nat) u, u ∈ (rankL (cntW (hasOf s)) s.words).take k → u ∈ s.words) := fun k u hu => (rank_mem _ _ u).1 (List.mem_of_mem_take hu)
  have HLE : Hid (∀ (k i : Nat) (u : Word) (hi : i < ((rankL (cntW (hasOf s)) s.words).take k).length), u ∈ s.words → u ∉ (rankL (cntW (hasOf s)) s.words).take k → aheadC (cntW (hasOf s)) ((rankL (cntW (hasOf s)) s.words).take k)[i] u = true) := fun k i u hi hu hno => rank_left _ (words_nodup s) u hu k i hi hno
  have hbx : ∀ o : Obj, (w.alloc o).heap[w.heap.size]? = some o := fun o => heap_alloc_new w o
  have HT4 : Hid (topL s 4 = (rankL (cntW (hasOf s)) s.words).take 4) := HTK.out 4 (by omega)
  generalize cntW (hasOf s) = c at *
  generalize hR : rankL c s.words = R at *
  clear hR
  generalize s.words = ws at *
  obtain ⟨nw, hnw⟩ : ∃ nw, ws.length = nw := ⟨_, rfl⟩
  obtain ⟨L, hL⟩ : ∃ L, R.take 4 = L := ⟨_, rfl⟩
  have HLL : Hid (L.length = min 4 nw) := by rw [Hid, ← hL, HRL.out 4, hnw]
  have HNW : Hid (ws.length = nw ∧ R.take 4 = L) := ⟨hnw, hL⟩
  have HLS : Hid (L.Pairwise (fun a b => aheadC c a b = true)) := by rw [Hid, ← hL]; exact HSO.out 4
  have HLM : Hid (∀ u ∈ L, u ∈ ws) := fun u hu => by rw [← hL] at hu; exact HME.out 4 u hu
  have HLF : Hid (∀ (i : Nat) (u : Word) (hi : i < L.length), u ∈ ws → u ∉ L → aheadC c L[i] u = true) := by
    subst hL; exact fun i u hi hu hno => HLE.out 4 i u hi hu hno
  rw [hnw] at hwl
  rw [hL] at HT4
  clear hnw hL h hf
  obtain ⟨nl, hnl⟩ : ∃ nl, L.length = nl := ⟨_, rfl⟩
  have HNN : Hid (nl = min 4 nw) := by rw [← hnl]; exact HLL.out
  have HNL : Hid (L.length = nl) := hnl
  clear hnl
  unfold belV
  go_enter Try.func58, Try.ntmps58
  go_upto_if 31 with (first
    | (go_at_call 18; refine (HT.out _ 4 ((Fr.refl _ _).alloc _)).mono ?_; rintro e w1 ⟨v7, rfl, hv7, f1⟩
       rw [HT4.out] at hv7
       have cb1 := f1.cell (b := w.heap.size) (o := 0) (v := .pointer (some ⟨x, 0, none⟩)) (by rw [cell_of_heap (hbx _)]; rfl) (fun h => h)
       have cl1 : w.heap.size < w1.heap.size := Nat.lt_of_lt_of_le (by simp) f1.size
       have F1 : Fr No w w1 := ((Fr.refl _ _).alloc _).trans f1
       have HV7 : Hid (SlW w1 v7 L) := hv7
       obtain ⟨a7, cap7, rfl, hc7⟩ := hv7.sl
       simp only [List.length_map, HNL.out] at HV7 ⊢
       clear hv7)
    | (go_at_call 83; refine (HK.out w1 F1).mono ?_; rintro e w2 ⟨v9, rfl, hv9, f2⟩
       have cb2 := f2.cell cb1 (fun h => h)
       have cl2 : w.heap.size < w2.heap.size := Nat.lt_of_lt_of_le cl1 f2.size
       have F2 : Fr No w w2 := F1.trans f2
       obtain ⟨a9, cap9, rfl, hc9⟩ := hv9
       simp only [List.length_map, HNW.out.1]))
  go_cut [10] from 31 to 31 (fun v wx => v = .int .i64 nl ∧ wx = w2)
  case first =>
    have hnlw := HNN.out
    by_cases h4 : 4 < nw
    · have hd : decide ((4 : Int) < (nw : Int)) = true := by simp; omega
      have hd' : (4 : Int) < (nw : Int) := by omega
      have HE : Hid (nl = 4) := by rw [Hid]; omega
      clear h4 hnlw
      go_wp2
      go_meet
      case rel => exact ⟨by rw [HE.out]; rfl, rfl⟩
    · have hd : decide ((4 : Int) < (nw : Int)) = false := by simp; omega
      have hd' : ¬ (4 : Int) < (nw : Int) := by omega
      have HE : Hid (nl = nw) := by rw [Hid]; omega
      clear h4 hnlw
      go_wp2
      go_meet
      case rel => exact ⟨by rw [HE.out], rfl⟩
  case rest =>
    obtain ⟨rfl, hwc⟩ := hcut
    have hwc := hwc.symm
    subst hwc
    have HC7 : Hid (∀ i (h : i < L.length), ∃ g o, a7 = some ⟨g, o, none⟩ ∧ w2.cell? ⟨g, o + i, none⟩ = some (.string (str L[i]))) := fun i h => by
      obtain ⟨g, o, e1, e2⟩ := hc7 i (.string (str L[i])) (by simp [h])
      exact ⟨g, o, e1, f2.cell e2 (fun h => h)⟩
    have HC9 : Hid (∀ i (h : i < ws.length), ∃ g o, a9 = some ⟨g, o, none⟩ ∧ w2.cell? ⟨g, o + i, none⟩ = some (.string (str ws[i]))) := fun i h => hc9 i (.string (str ws[i])) (by simp [h])
    have HSW : Hid (SlW w2 (.slice a7 nl cap7) L) := HV7.out.fr f2
    clear hc7 hc9 HV7 cb1 cl1 f1 f2
    have hnlw := HNN.out
    have hnl4 : nl ≤ 4 := by omega
    have hnlw2 : nl ≤ nw := by omega
    have hnlp : 0 < nw → 0 < nl := by omega
    clear hnlw
    go_wp2
    go_loopw [11, 12] (fun la i wr => ∃ q : Nat, q ≤ nl ∧ i = .int .i64 q ∧ la = .int .i64 (lastC c L q : Nat) ∧ Fr No w2 wr) (fun _ i _ => nl - (intOf i).toNat)
    case atStart => exact ⟨0, Nat.zero_le _, rfl, rfl, Fr.refl _ _⟩
    case round =>
      obtain ⟨q, hq, rfl, rfl, hfr⟩ := hrel
      by_cases hlt : q < nl
      · have hql : q < L.length := by rw [HNL.out]; exact hlt
        obtain ⟨g7, o7, e7, c7⟩ := HC7.out q hql
        subst e7
        have c7 := hfr.cell c7 (fun h => h)
        have hq1 : (q : Int) < (nl : Int) := by omega
        have HCA : Hid (Calls Try.prog 79 #[.pointer (some ⟨y, 0, none⟩), .string (str L[q])] wr fun e w'' => ∃ v, e = .returned v ∧ Sl w'' v ((s.holders L[q]).map (Value.int .i64)) ∧ Fr No wr w'') := HA.out wr L[q] (F2.trans hfr) (HLM.out _ (List.getElem_mem hql))
        have h1c := HC6.out L[q] (HLM.out _ (List.getElem_mem hql))
        have hhl := (HHL.out L[q]).1
        have HLA : Hid (lastC c L (q + 1) = c L[q]) := lastC_succ c L q hql
        have hprev : (decide (0 < q) = false ∧ decide ((0 : Int) < (q : Int)) = false) ∨ (∃ r p, q = r + 1 ∧ wr.cell? ⟨g7, o7 + r, none⟩ = some (.string (str p)) ∧ lastC c L q = c p ∧ aheadC c p L[q] = true) := by
          rcases Nat.eq_zero_or_pos q with h0 | h0
          · exact .inl ⟨by simp [h0], by simp [h0]⟩
          · obtain ⟨r, rfl⟩ : ∃ r, q = r + 1 := ⟨q - 1, by omega⟩
            obtain ⟨g', o', e', c'⟩ := HC7.out r (by omega)
            simp only [Option.some.injEq, Addr.mk.injEq, and_true] at e'
            obtain ⟨rfl, rfl⟩ := e'
            exact .inr ⟨r, L[r], rfl, hfr.cell c' (fun h => h), lastC_succ c L r (by omega), List.pairwise_iff_getElem.1 HLS.out r (r + 1) (by omega) hql (by omega)⟩
        generalize L[q] = u at *
        have HHL2 : Hid ((s.holders u).length = c u) := hhl
        have HFR : Hid (Fr No w2 wr) := hfr
        clear hql hhl hfr
        rcases hprev with ⟨hq0, hq02⟩ | ⟨r, p, hqr, hcp, hla, hah⟩
        · generalize hcu : c u = cu at *
          have hle : decide ((cu : Int) ≤ 0) = false := by simp; omega
          have hle2 : decide (cu ≤ 0) = false := by simp; omega
          have hle3 : ¬ (cu : Int) ≤ 0 := by omega
          have hle4 : decide (cu = 0) = false := by simp; omega
          have hle5 : decide ((cu : Int) = 0) = false := by simp; omega
          have hle6 : ¬ cu = 0 := by omega
          clear hcu
          go_wp2_with (go_at_call 79; refine HCA.out.mono ?_; rintro e w3 ⟨v13, rfl, hv13, f3⟩
                       obtain ⟨a13, cap13, rfl, -⟩ := hv13
                       simp only [List.length_map, HHL2.out]
                       have F3 : Hid (Fr No w2 w3) := HFR.out.trans f3
                       clear f3)
          go_quiet (fail)
          go_wp2
          go_roundw
          case rel => exact ⟨q + 1, by omega, by go_num, by rw [HLA.out], F3.out.drewN _⟩
          case measure => simp [intOf]; omega
        · rw [hla]
          have hah' : (c p = c u ∧ Op.bytesLess (str p).toList (str u).toList = true) ∨ (¬ c p = c u ∧ c u < c p) := by
            unfold aheadC at hah
            by_cases e : c p = c u
            · rw [if_pos e] at hah
              exact .inl ⟨e, by rw [str_toList, str_toList, less_eq]; exact hah⟩
            · rw [if_neg e] at hah
              exact .inr ⟨e, by simpa using hah⟩
          have hpc : c p ≤ 9 := (HHL.out p).2
          generalize hcu : c u = cu at *
          generalize hcp2 : c p = cp at *
          have hle : decide ((cu : Int) ≤ 0) = false := by simp; omega
          have hle2 : decide (cu ≤ 0) = false := by simp; omega
          have hle3 : ¬ (cu : Int) ≤ 0 := by omega
          have hle4 : decide (cu = 0) = false := by simp; omega
          have hle5 : decide ((cu : Int) = 0) = false := by simp; omega
          have hle6 : ¬ cu = 0 := by omega
          have hq0 : decide ((0 : Int) < (q : Int)) = true := by simp; omega
          have hq02 : decide (0 < q) = true := by simp; omega
          have hqr' : (q : Int) - 1 = (r : Int) := by omega
          have hrn : (r : Int) < (nl : Int) := by omega
          have hlt1 : decide ((cp : Int) < (cu : Int)) = false := by
            rcases hah' with ⟨e, _⟩ | ⟨_, e⟩ <;> simp <;> omega
          have hlt2 : decide (cp < cu) = false := by
            rcases hah' with ⟨e, _⟩ | ⟨_, e⟩ <;> simp <;> omega
          clear hcu hcp2 hla hah hqr
          rcases hah' with ⟨e, hbl⟩ | ⟨e, e2⟩
          · have heq : ((cu : Int) == (cp : Int)) = true := by simp; omega
            clear e
            go_wp2_with (go_at_call 79; refine HCA.out.mono ?_; rintro e w3 ⟨v13, rfl, hv13, f3⟩
                         obtain ⟨a13, cap13, rfl, -⟩ := hv13
                         simp only [List.length_map, HHL2.out]
                         have F3 : Hid (Fr No w2 w3) := HFR.out.trans f3
                         have c73 := f3.cell c7 (fun h => h)
                         have cp3 := f3.cell hcp (fun h => h)
                         clear f3)
            go_quiet (fail)
            go_wp2
            go_roundw
            case rel => exact ⟨q + 1, by omega, by go_num, by rw [HLA.out], F3.out.drewN _⟩
            case measure => simp [intOf]; omega
          · have heq : ((cu : Int) == (cp : Int)) = false := by simp; omega
            clear e e2
            go_wp2_with (go_at_call 79; refine HCA.out.mono ?_; rintro e w3 ⟨v13, rfl, hv13, f3⟩
                         obtain ⟨a13, cap13, rfl, -⟩ := hv13
                         simp only [List.length_map, HHL2.out]
                         have F3 : Hid (Fr No w2 w3) := HFR.out.trans f3
                         have c73 := f3.cell c7 (fun h => h)
                         have cp3 := f3.cell hcp (fun h => h)
                         clear f3)
            go_quiet (fail)
            go_wp2
            go_roundw
            case rel => exact ⟨q + 1, by omega, by go_num, by rw [HLA.out], F3.out.drewN _⟩
            case measure => simp [intOf]; omega
      · have hqn : q = nl := by omega
        subst hqn
        have HFQ : Hid (Fr No w2 wr) := hfr
        have cbq := hfr.cell cb2 (fun h => h)
        have clq : w.heap.size < wr.heap.size := Nat.lt_of_lt_of_le cl2 hfr.size
        clear hfr
        obtain ⟨wq, hwq⟩ : ∃ wq, wq = wr := ⟨_, rfl⟩
        subst hwq
        obtain ⟨lc, hlc⟩ : ∃ lc, lc = lastC c L q := ⟨_, rfl⟩
        have HLC : Hid (lc = lastC c L q) := hlc
        rw [← hlc]
        clear hlc
        go_wp2
        go_loopw [15] (fun i wr => ∃ t : Nat, t ≤ nw ∧ i = .int .i64 t ∧ Fr No wq wr) (fun i _ => nw - (intOf i).toNat)
        case atStart => exact ⟨0, Nat.zero_le _, rfl, Fr.refl _ _⟩
        case round =>
          obtain ⟨t, ht, rfl, hft⟩ := hrel
          by_cases htn : t < nw
          · have htl : t < ws.length := by rw [HNW.out.1]; exact htn
            have hqp : 0 < q := hnlp (by omega)
            obtain ⟨r, hr⟩ : ∃ r, q = r + 1 := ⟨q - 1, by omega⟩
            have hrl : r < L.length := by rw [HNL.out]; omega
            obtain ⟨g9, o9, e9, c9⟩ := HC9.out t htl
            subst e9
            obtain ⟨g7, o7, e7, c7⟩ := HC7.out r hrl
            subst e7
            have c9 := (HFQ.out.trans hft).cell c9 (fun h => h)
            have c7 := (HFQ.out.trans hft).cell c7 (fun h => h)
            have cbt := hft.cell cbq (fun h => h)
            have clt : w.heap.size < wr.heap.size := Nat.lt_of_lt_of_le clq hft.size
            have hd1 : decide ((t : Int) < (nw : Int)) = true := by simp; omega
            have hd1' : (t : Int) < (nw : Int) := by omega
            have hd2 : decide ((0 : Int) < (q : Int)) = true := by simp; omega
            have hd2' : (0 : Int) < (q : Int) := by omega
            have hd2n : decide (0 < q) = true := by simp; omega
            have hqr : (q : Int) - 1 = (r : Int) := by omega
            have hrq : (r : Int) < (q : Int) := by omega
            have hlc : lc = c L[r] := by rw [HLC.out, hr]; exact lastC_succ c L r hrl
            have HIN : Hid (ws[t] ∉ L → aheadC c L[r] ws[t] = true) := fun hno => HLF.out r ws[t] hrl (List.getElem_mem htl) hno
            have HCH : Hid (∀ W, Fr No wr W → Calls Try.prog 80 #[.agg #[.pointer (some ⟨x, 0, none⟩)], .string (str ws[t])] W fun e w'' => ∃ v, e = .returned v ∧ Sl w'' v ((s.holders ws[t]).map (Value.int .i64)) ∧ Fr No W w'') := fun W f => HH.out W ws[t] ((F2.trans (HFQ.out.trans hft)).trans f)
            have hhl := (HHL.out ws[t]).1
            have hc9' := (HHL.out ws[t]).2
            have hcz' := (HHL.out L[r]).2
            have HSL : Hid (∀ W, Fr No wq W → Sl W (.slice (some ⟨g7, o7, none⟩) q cap7) (L.map fun s => Value.string (str s))) := fun W f => (HSW.out.fr (HFQ.out.trans f)).sl
            generalize ws[t] = u at *
            generalize L[r] = zz at *
            have HLZ : Hid (lc = c zz) := hlc
            have HHL2 : Hid ((s.holders u).length = c u) := hhl
            have HFT : Hid (Fr No wq wr) := hft
            clear htl hrl hhl hlc hr hft
            have HMB : Hid ((c zz < c u ∨ (c u = c zz ∧ u < zz)) → u ∈ L) := fun hcond => by
              rcases Classical.em (u ∈ L) with h | h
              · exact h
              · have hah := HIN.out h
                unfold aheadC at hah
                exfalso
                by_cases e : c zz = c u
                · rw [if_pos e] at hah
                  have hzu : zz < u := by simpa using hah
                  rcases hcond with h1 | ⟨_, h1⟩
                  · omega
                  · exact wlt_as _ _ hzu h1
                · rw [if_neg e] at hah
                  have : c u < c zz := by simpa using hah
                  rcases hcond with h1 | ⟨h1, _⟩ <;> omega
            have HAM : Hid (∀ W, Fr No wq W → u ∈ L → Calls Try.prog 84 #[.slice (some ⟨g7, o7, none⟩) q cap7, .string (str u)] W fun e w' => e = .returned (.bool true) ∧ w' = W) := fun W f hm => by
              have := among_any u W _ L (HSL.out W f) (by rw [HNL.out]; omega)
              simpa [hm] using this
            go_wp2
            go_region_held3 (fun w' => w'.cell? ⟨w.heap.size, 0, none⟩ = some (.pointer (some ⟨x, 0, none⟩)) ∧ w'.cell? ⟨g9, o9 + t, none⟩ = some (.string (str u))) (go_keep)
              (first
                | (go_at_call 80
                   refine (HCH.out _ ((Fr.refl No wr).drew)).mono ?_
                   rintro e w4 ⟨v16, rfl, hv16, f4⟩
                   have F4 : Hid (Fr No wr w4) := (Fr.refl No wr).drew.trans f4
                   have cb4 := F4.out.cell cbt (fun h => h)
                   have c94 := F4.out.cell c9 (fun h => h)
                   have c74 := F4.out.cell c7 (fun h => h)
                   obtain ⟨a16, cap16, rfl, -⟩ := hv16
                   simp only [List.length_map, HHL2.out]
                   clear f4))
            all_goals
              have F5 : Hid (∀ m, Fr No wq (w4.drewN m)) := fun m => (HFT.out.trans F4.out).drewN m
              by_cases hA : c zz < c u
              · have hin : u ∈ L := HMB.out (.inl hA)
                have HA5 : Hid (∀ m, Calls Try.prog 84 #[.slice (some ⟨g7, o7, none⟩) q cap7, .string (str u)] (w4.drewN m) fun e w' => e = .returned (.bool true) ∧ w' = w4.drewN m) := fun m => HAM.out _ (F5.out m) hin
                clear hin
                generalize c u = cu at *
                generalize c zz = cz at *
                have hcz2 : cz = lc := HLZ.out.symm
                subst hcz2
                have b1 : decide ((cz : Int) < (cu : Int)) = true := by simp; omega
                have b1' : (cz : Int) < (cu : Int) := by omega
                have b1n : decide (cz < cu) = true := by simp; omega
                go_wp2
                go_quiet (fail)
                have c95 : (w4.drewN nq).cell? ⟨g9, o9 + t, none⟩ = some (.string (str u)) := c94
                go_wp2_with (go_at_call 84; refine (HA5.out _).mono ?_; rintro e w6 ⟨rfl, hw6⟩; have hw6 := hw6.symm; subst hw6)
                go_roundw
                case rel => exact ⟨t + 1, by omega, by go_num, F5.out _⟩
                case measure => simp [intOf]; omega
              · by_cases hE : c u = c zz
                · by_cases hU : u < zz
                  · have hin : u ∈ L := HMB.out (.inr ⟨hE, hU⟩)
                    have HA5 : Hid (∀ m, Calls Try.prog 84 #[.slice (some ⟨g7, o7, none⟩) q cap7, .string (str u)] (w4.drewN m) fun e w' => e = .returned (.bool true) ∧ w' = w4.drewN m) := fun m => HAM.out _ (F5.out m) hin
                    have hbl : Op.bytesLess (str u).toList (str zz).toList = true := by rw [str_toList, str_toList, less_eq]; simpa using hU
                    clear hin hU
                    generalize c u = cu at *
                    generalize c zz = cz at *
                    have hcz2 : cz = lc := HLZ.out.symm
                    subst hcz2
                    have b1 : decide ((cz : Int) < (cu : Int)) = false := by simp; omega
                    have b1' : ¬ (cz : Int) < (cu : Int) := by omega
                    have b1n : decide (cz < cu) = false := by simp; omega
                    have b2 : ((cu : Int) == (cz : Int)) = true := by simp; omega
                    clear hE hA
                    go_wp2
                    go_quiet (fail)
                    have c95 : (w4.drewN nq).cell? ⟨g9, o9 + t, none⟩ = some (.string (str u)) := c94
                    go_wp2_with (go_at_call 84; refine (HA5.out _).mono ?_; rintro e w6 ⟨rfl, hw6⟩; have hw6 := hw6.symm; subst hw6)
                    go_roundw
                    case rel => exact ⟨t + 1, by omega, by go_num, F5.out _⟩
                    case measure => simp [intOf]; omega
                  · have hbl : Op.bytesLess (str u).toList (str zz).toList = false := by rw [str_toList, str_toList, less_eq]; simpa using hU
                    clear hU
                    generalize c u = cu at *
                    generalize c zz = cz at *
                    have hcz2 : cz = lc := HLZ.out.symm
                    subst hcz2
                    have b1 : decide ((cz : Int) < (cu : Int)) = false := by simp; omega
                    have b1' : ¬ (cz : Int) < (cu : Int) := by omega
                    have b1n : decide (cz < cu) = false := by simp; omega
                    have b2 : ((cu : Int) == (cz : Int)) = true := by simp; omega
                    clear hE hA
                    go_wp2
                    go_quiet (fail)
                    go_wp2
                    go_roundw
                    case rel => exact ⟨t + 1, by omega, by go_num, F5.out _⟩
                    case measure => simp [intOf]; omega
                · generalize c u = cu at *
                  generalize c zz = cz at *
                  have hcz2 : cz = lc := HLZ.out.symm
                  subst hcz2
                  have b1 : decide ((cz : Int) < (cu : Int)) = false := by simp; omega
                  have b1' : ¬ (cz : Int) < (cu : Int) := by omega
                  have b1n : decide (cz < cu) = false := by simp; omega
                  have b2 : ((cu : Int) == (cz : Int)) = false := by simp; omega
                  clear hE hA
                  go_wp2
                  go_quiet (fail)
                  go_wp2
                  go_roundw
                  case rel => exact ⟨t + 1, by omega, by go_num, F5.out _⟩
                  case measure => simp [intOf]; omega
          · have hd1 : decide ((t : Int) < (nw : Int)) = false := by simp; omega
            have hd1' : ¬ (t : Int) < (nw : Int) := by omega
            have HFE : Hid (Fr No w wr) := F2.trans (HFQ.out.trans hft)
            have HSL : Hid (SlW wr (.slice a7 q cap7) L) := HSW.out.fr (HFQ.out.trans hft)
            clear hft
            by_cases hk0 : k < 0
            · have b1 : decide (k < 0) = true := by simpa using hk0
              go_wp2
              go_ret
              exact ⟨rfl, HFE.out⟩
            have b1 : decide (k < 0) = false := by simpa using hk0
            by_cases hk4 : 4 < k
            · have b2 : decide (4 < k) = true := by simpa using hk4
              go_wp2
              go_ret
              exact ⟨rfl, HFE.out⟩
            have b2 : decide (4 < k) = false := by simpa using hk4
            obtain ⟨kn, rfl⟩ : ∃ kn : Nat, k = kn := ⟨k.toNat, by omega⟩
            have HTOP : Hid (topL s (kn : Int) = R.take kn) := by have := HTK.out kn (by omega); simp only [Int.toNat_natCast] at this; exact this
            have hRk : (R.take kn).length = min kn nw := by rw [HRL.out kn, HNW.out.1]
            have HD : Hid (R.take kn = L.take (min kn q)) := by
              rw [Hid, ← HNW.out.2, List.take_take]
              by_cases h : kn ≤ q
              · congr 1; omega
              · have hq4 : q = nw := by have := HNN.out; omega
                have hR : R.length ≤ q := by have := HRL.out 5; rw [List.length_take, HNW.out.1] at this; omega
                rw [List.take_of_length_le (by omega), List.take_of_length_le (by omega)]
            have HRS : Hid ((∀ u ∈ R.take kn, u.length ≤ 1000) ∧ (R.take kn).length ≤ 1000) := ⟨fun u hu => HWS.out u (HME.out kn u hu), by rw [hRk]; omega⟩
            have HRN : Hid ((R.take kn).length = min kn q) := by rw [Hid, hRk]; have := HNN.out; omega
            have HCT : Hid (Calls Try.prog 18 #[.pointer (some ⟨y, 0, none⟩), .int .i64 (kn : Int)] wr fun e w'' => ∃ v, e = .returned (.tuple #[v, .int .i64 (topErr (kn : Int))]) ∧ Sl w'' v ((R.take kn).map fun s => Value.string (str s)) ∧ Fr No wr w'') := (HT.out wr kn HFE.out).mono fun e w'' ⟨v, h1, h2, h3⟩ => ⟨v, h1, by rw [HTOP.out] at h2; exact h2.sl, h3⟩
            have HST : Hid (∀ W v, Sl W v ((R.take kn).map fun s => Value.string (str s)) → Calls Try.prog 19 #[v] W fun e w'' => e = .returned (.string (str (strs (R.take kn)))) ∧ Fr No W w'') := fun W v hv => strs_any v (R.take kn) W hv HRS.out.1 HRS.out.2
            have HS2 : Hid (∀ W, Fr No wr W → (∃ g, a7 = some ⟨g, 0, none⟩ ∧ q ≤ cap7 ∧ Sl W (.slice (some ⟨g, 0, none⟩) (min kn q) cap7) ((R.take kn).map fun s => Value.string (str s))) ∨ (a7 = none ∧ q = 0 ∧ cap7 = 0 ∧ Sl W (.slice none 0 0) ((R.take kn).map fun s => Value.string (str s)))) := fun W f => by
              rcases HSL.out with ⟨e1, e2⟩ | ⟨g, cap, e1, e2, e3⟩
              · simp only [Value.slice.injEq] at e1
                obtain ⟨rfl, rfl, rfl⟩ := e1
                refine .inr ⟨rfl, rfl, rfl, ?_⟩
                rw [HD.out, e2]
                exact ⟨none, 0, by simp, fun j u hj => by simp at hj⟩
              · simp only [Value.slice.injEq] at e1
                obtain ⟨rfl, e4, rfl⟩ := e1
                refine .inl ⟨g, rfl, by omega, some ⟨g, 0, none⟩, cap7, by rw [List.length_map, HRN.out], fun j u hj => ⟨g, 0, rfl, ?_⟩⟩
                rw [HD.out] at hj
                simp only [List.getElem?_map, Option.map_eq_some_iff] at hj
                obtain ⟨xx, hxx, rfl⟩ := hj
                rw [List.getElem?_take] at hxx
                split at hxx
                · obtain ⟨h', rfl⟩ := List.getElem?_eq_some_iff.1 hxx
                  rw [Nat.zero_add]; exact f.cell (e3 j h') (fun h => h)
                · cases hxx
            clear hRk HSL hk0 hk4
            rcases HS2.out wr (Fr.refl _ _) with ⟨g, e7, hqc, -⟩ | ⟨e7, hq0, hc0, -⟩
            · subst e7
              have HS3 : Hid (∀ W, Fr No wr W → Sl W (.slice (some ⟨g, 0, none⟩) (min kn q) cap7) ((R.take kn).map fun s => Value.string (str s))) := fun W f => by
                rcases HS2.out W f with ⟨g', e', _, h⟩ | ⟨e', _⟩
                · simp only [Option.some.injEq, Addr.mk.injEq, and_true] at e'
                  rw [e']; exact h
                · cases e'
              clear HS2
              by_cases hkq : q < kn
              · have b3 : decide ((q : Int) < (kn : Int)) = true := by simp; omega
                have b3' : (q : Int) < (kn : Int) := by omega
                have hmin : min kn q = q := by omega
                rw [hmin] at HRN HS3
                clear hmin
                go_wp2_with first
                  | (go_at_call 18; refine HCT.out.mono ?_; rintro e w5 ⟨v17, rfl, hv17, f5⟩
                     have HV17 : Hid (Sl w5 v17 ((R.take kn).map fun s => Value.string (str s))) := hv17
                     obtain ⟨a17, cap17, rfl, -⟩ := hv17
                     simp only [List.length_map, HRN.out] at HV17 ⊢)
                  | (go_at_call 19
                     first
                       | (refine (HST.out w6 _ (HS3.out w6 (f5.trans f6))).mono ?_
                          rintro e w7 ⟨rfl, f7⟩)
                       | (refine (HST.out w5 _ HV17.out).mono ?_
                          rintro e w6 ⟨rfl, f6⟩))
                go_ret
                exact ⟨by simp, HFE.out.trans (f5.trans (f6.trans f7))⟩
              · have b3 : decide ((q : Int) < (kn : Int)) = false := by simp; omega
                have b3' : ¬ (q : Int) < (kn : Int) := by omega
                have hmin : min kn q = kn := by omega
                rw [hmin] at HRN HS3
                clear hmin
                go_wp2_with first
                  | (go_at_call 18; refine HCT.out.mono ?_; rintro e w5 ⟨v17, rfl, hv17, f5⟩
                     have HV17 : Hid (Sl w5 v17 ((R.take kn).map fun s => Value.string (str s))) := hv17
                     obtain ⟨a17, cap17, rfl, -⟩ := hv17
                     simp only [List.length_map, HRN.out] at HV17 ⊢)
                  | (go_at_call 19
                     first
                       | (refine (HST.out w6 _ (HS3.out w6 (f5.trans f6))).mono ?_
                          rintro e w7 ⟨rfl, f7⟩)
                       | (refine (HST.out w5 _ HV17.out).mono ?_
                          rintro e w6 ⟨rfl, f6⟩))
                go_ret
                exact ⟨by simp, HFE.out.trans (f5.trans (f6.trans f7))⟩
            · subst e7 hq0 hc0
              have HS3 : Hid (∀ W, Fr No wr W → Sl W (.slice none 0 0) ((R.take kn).map fun s => Value.string (str s))) := fun W f => by
                rcases HS2.out W f with ⟨g', e', _, h⟩ | ⟨e', _, _, h⟩
                · cases e'
                · exact h
              clear HS2
              have hmin : min kn 0 = 0 := by omega
              rw [hmin] at HRN
              clear hmin
              rcases Nat.eq_zero_or_pos kn with hk0 | hk0
              · subst hk0
                go_wp2_with first
                  | (go_at_call 18; refine HCT.out.mono ?_; rintro e w5 ⟨v17, rfl, hv17, f5⟩
                     have HV17 : Hid (Sl w5 v17 ((R.take 0).map fun s => Value.string (str s))) := hv17
                     obtain ⟨a17, cap17, rfl, -⟩ := hv17
                     simp only [List.length_map, HRN.out] at HV17 ⊢)
                  | (go_at_call 19
                     first
                       | (refine (HST.out w6 _ (HS3.out w6 (f5.trans f6))).mono ?_
                          rintro e w7 ⟨rfl, f7⟩)
                       | (refine (HST.out w5 _ HV17.out).mono ?_
                          rintro e w6 ⟨rfl, f6⟩))
                go_ret
                exact ⟨by simp, HFE.out.trans (f5.trans (f6.trans f7))⟩
              · have b3 : decide ((0 : Int) < (kn : Int)) = true := by simp; omega
                have b3' : (0 : Int) < (kn : Int) := by omega
                have b3n : decide (0 < kn) = true := by simp; omega
                go_wp2_with first
                  | (go_at_call 18; refine HCT.out.mono ?_; rintro e w5 ⟨v17, rfl, hv17, f5⟩
                     have HV17 : Hid (Sl w5 v17 ((R.take kn).map fun s => Value.string (str s))) := hv17
                     obtain ⟨a17, cap17, rfl, -⟩ := hv17
                     simp only [List.length_map, HRN.out] at HV17 ⊢)
                  | (go_at_call 19
                     first
                       | (refine (HST.out w6 _ (HS3.out w6 (f5.trans f6))).mono ?_
                          rintro e w7 ⟨rfl, f7⟩)
                       | (refine (HST.out w5 _ HV17.out).mono ?_
                          rintro e w6 ⟨rfl, f6⟩))
                go_ret
                exact ⟨by simp, HFE.out.trans (f5.trans (f6.trans f7))⟩
end Go.Proofs.Qxb6500357a
