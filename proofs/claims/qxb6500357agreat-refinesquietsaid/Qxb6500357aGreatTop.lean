import Derived.Test.Qxb6500357aGreatRank2
namespace Go.Proofs.Qxb6500357aGreat
open Go.RowKit Go.Tag
variable {st0 : Nat}
set_option linter.unusedVariables false
set_option linter.unusedSimpArgs false
set_option maxRecDepth 100000
attribute [local simp] str_size
attribute [local go_sem] str_size

def rankIns (c : Word → Nat) : List Word → Word → List Word
  | [], u => [u]
  | a :: l, u => if aheadC c a u then a :: rankIns c l u else u :: a :: l
def rankAll (c : Word → Nat) (acc ks : List Word) : List Word := ks.foldl (rankIns c) acc
theorem rankIns_mem (c : Word → Nat) (u x : Word) : ∀ (l : List Word), x ∈ rankIns c l u ↔ x = u ∨ x ∈ l
  | [] => by simp [rankIns]
  | a :: l => by
    unfold rankIns
    have ih := rankIns_mem c u x l
    split
    · rw [List.mem_cons, ih, List.mem_cons]
      constructor
      · rintro (h | h | h)
        · exact .inr (.inl h)
        · exact .inl h
        · exact .inr (.inr h)
      · rintro (h | h | h)
        · exact .inr (.inl h)
        · exact .inl h
        · exact .inr (.inr h)
    · rw [List.mem_cons]
theorem rankIns_sorted (c : Word → Nat) (u : Word) : ∀ (l : List Word), u ∉ l → l.Pairwise (fun a b => aheadC c a b = true) → (rankIns c l u).Pairwise (fun a b => aheadC c a b = true)
  | [], _, _ => by simp [rankIns]
  | a :: l, hu, h => by
    rw [List.pairwise_cons] at h
    unfold rankIns
    split
    · next h1 =>
      rw [List.pairwise_cons]
      refine ⟨fun x hx => ?_, rankIns_sorted c u l (fun e => hu (by simp [e])) h.2⟩
      rcases (rankIns_mem c u x l).1 hx with rfl | hx
      · exact h1
      · exact h.1 x hx
    · next h1 =>
      rw [List.pairwise_cons, List.pairwise_cons]
      have hua := ahead_tot c (a := a) (b := u) (fun e => hu (by simp [e])) h1
      refine ⟨fun x hx => ?_, h⟩
      rcases List.mem_cons.1 hx with rfl | hx
      · exact hua
      · exact ahead_tr c _ _ _ hua (h.1 x hx)
theorem rankAll_mem (c : Word → Nat) (x : Word) : ∀ (ks acc : List Word), x ∈ rankAll c acc ks ↔ x ∈ acc ∨ x ∈ ks
  | [], acc => by simp [rankAll]
  | u :: ks, acc => by
    have ih := rankAll_mem c x ks (rankIns c acc u)
    unfold rankAll at ih ⊢
    rw [List.foldl_cons, ih, rankIns_mem, List.mem_cons]
    constructor
    · rintro ((h | h) | h)
      · exact .inr (.inl h)
      · exact .inl h
      · exact .inr (.inr h)
    · rintro (h | h | h)
      · exact .inl (.inr h)
      · exact .inl (.inl h)
      · exact .inr h
theorem rankAll_sorted (c : Word → Nat) : ∀ (ks acc : List Word), ks.Nodup → (∀ u ∈ ks, u ∉ acc) → acc.Pairwise (fun a b => aheadC c a b = true) → (rankAll c acc ks).Pairwise (fun a b => aheadC c a b = true)
  | [], acc, _, _, h => h
  | u :: ks, acc, hn, ha, h => by
    obtain ⟨h1, h2⟩ := List.nodup_cons.1 hn
    refine rankAll_sorted c ks (rankIns c acc u) h2 (fun v hv hm => ?_) (rankIns_sorted c u acc (ha u (by simp)) h)
    rcases (rankIns_mem c u v acc).1 hm with rfl | hm
    · exact h1 hv
    · exact ha v (by simp [hv]) hm
theorem rankIns_len (c : Word → Nat) (u : Word) : ∀ (l : List Word), (rankIns c l u).length = l.length + 1
  | [] => by simp [rankIns]
  | a :: l => by
    unfold rankIns
    split
    · simp [rankIns_len c u l]
    · simp
theorem rankAll_len (c : Word → Nat) : ∀ (ks acc : List Word), (rankAll c acc ks).length = acc.length + ks.length
  | [], acc => by simp [rankAll]
  | u :: ks, acc => by
    have ih := rankAll_len c ks (rankIns c acc u)
    unfold rankAll at ih ⊢
    rw [List.foldl_cons, ih, rankIns_len]; simp; omega
/-- The words by falling count, among equals ascending. -/
def rankL (c : Word → Nat) (ks : List Word) : List Word := rankAll c [] ks
theorem rank_unique (c : Word → Nat) {ks A : List Word} (hn : ks.Nodup) (hs : A.Pairwise (fun a b => aheadC c a b = true)) (hm : ∀ k, k ∈ A ↔ k ∈ ks) : A = rankL c ks :=
  sorted_unique (lt := fun a b => aheadC c a b = true) (ahead_irr c) (ahead_as c) A _ hs (rankAll_sorted c ks [] hn (by simp) List.Pairwise.nil) (fun x => by rw [hm]; unfold rankL; rw [rankAll_mem]; simp)

def topErr (k : Int) : Int := if 0 ≤ k ∧ k ≤ 4 then 0 else 8
def topL (s : St) (k : Int) : List Word := if 0 ≤ k ∧ k ≤ 4 then (rankL (cntW (hasOf s)) s.words).take k.toNat else []
/-- A fresh list of words and an Errno. -/
def StrsErr (w : World) (L : List Word) (er : Int) (e : Ending) (w' : World) : Prop :=
  ∃ v, e = .returned (.tuple #[v, .int .i64 er]) ∧ w'.ownsRow w.heap.size 9 1 v L.length (L.map vStr) ∧ Fr No w w' ∧ (L = [] → v = .slice none 0 0)

theorem fFreq_succ (c : Word → Nat) (ks : List Word) (j : Nat) (h : j < ks.length) : fFreq c (ks.take (j + 1)) = upd (fFreq c (ks.take j)) ks[j] (some (.int .i64 (c ks[j]))) := by
  funext u
  have hm : (u ∈ ks.take (j + 1)) ↔ (u ∈ ks.take j ∨ u = ks[j]) := by rw [take_snoc ks j h, List.mem_append, List.mem_singleton]
  unfold fFreq upd
  by_cases h1 : u = ks[j] <;> by_cases h2 : u ∈ ks.take j <;> simp_all
theorem own_take {w : World} {base : Nat} {e : TypeId} {g n cap m : Nat} {xs : List Value} (h : w.ownsRow base e 1 (.slice (some ⟨g, 0, none⟩) n cap) n xs) (hm : m ≤ n) : w.ownsRow base e 1 (.slice (some ⟨g, 0, none⟩) m cap) m (xs.take m) := by
  obtain ⟨h1, h2⟩ := h
  rcases h2 with ⟨hv, h0⟩ | ⟨g', cap', cur, hv, hg, hh, hnc, hcm, hsz, htk⟩
  · cases hv
  · simp only [Value.slice.injEq, Option.some.injEq, Addr.mk.injEq] at hv
    obtain ⟨⟨rfl, _⟩, _, rfl⟩ := hv
    refine ⟨by simp; omega, .inr ⟨g, cap, cur, rfl, hg, hh, by omega, hcm, hsz, ?_⟩⟩
    rw [← htk, List.take_take]; congr 1; omega

theorem own_cap {w : World} {base : Nat} {e : TypeId} {g n cap : Nat} {xs : List Value} (h : w.ownsRow base e 1 (.slice (some ⟨g, 0, none⟩) n cap) n xs) : n ≤ cap := by
  obtain ⟨h1, h2⟩ := h
  rcases h2 with ⟨hv, h0⟩ | ⟨g', cap', cur, hv, hg, hh, hnc, _⟩
  · cases hv
  · simp only [Value.slice.injEq] at hv; omega
section
variable (y x : Nat) (F : Nat → Prop) (s : St) (B : Int) (k : Int) (w : World)
theorem top_bad (hk : ¬ (0 ≤ k ∧ k ≤ 4)) : Calls Tryz.prog 28 #[.pointer (some ⟨y, 0, none⟩), .int .i64 k] w (StrsErr w (topL s k) (topErr k)) := by
  have HE : Hid (StrsErr w (topL s k) (topErr k) (.returned (.tuple #[.slice none 0 0, .int .i64 8])) w) := by
    unfold topL topErr; rw [if_neg hk, if_neg hk]
    exact ⟨_, rfl, own_nil _ _ _ _, Fr.refl _ _, fun _ => rfl⟩
  by_cases h0 : k < 0
  · have h1 : decide (k < 0) = true := by simpa using h0
    clear hk
    go_enter Tryz.func28, Tryz.ntmps28
    go_wp2
    refine bodyPost_ret (v := .tuple #[.slice none 0 0, .int .i64 8]) (by simp [results, Tryz.results28, go_sem]) rfl HE.out
  · have h1 : decide (k < 0) = false := by simpa using h0
    have h2 : decide ((4 : Int) < k) = true := by simp; omega
    clear hk h0
    go_enter Tryz.func28, Tryz.ntmps28
    go_wp2
    refine bodyPost_ret (v := .tuple #[.slice none 0 0, .int .i64 8]) (by simp [results, Tryz.results28, go_sem]) rfl HE.out

set_option maxHeartbeats 1000000 in
theorem top_good (h : QAt st0 w F y x s) (hf : Fine s B) (hk : 0 ≤ k ∧ k ≤ 4) : Calls Tryz.prog 28 #[.pointer (some ⟨y, 0, none⟩), .int .i64 k] w (StrsErr w (topL s k) (topErr k)) := by
  have HL : Hid (topL s k = (rankL (cntW (hasOf s)) s.words).take k.toNat ∧ topErr k = 0) := by
    unfold topL topErr; rw [if_pos hk, if_pos hk]; exact ⟨rfl, rfl⟩
  have h1 : decide (k < 0) = false := by simp; omega
  have h2 : decide ((4 : Int) < k) = false := by simp; omega
  have hmm := @run_makeMap Tryz.prog
  have hr0 : w.cell? ⟨y, 0, none⟩ = some (.pointer (some ⟨x, 0, none⟩)) := by rw [cell_of_heap h.1]; rfl
  have hyw := lt_of_heap h.1
  have HB : Hid (∀ w', Fr No w w' → Both st0 w' F x s) := fun w' f => h.2.frNo f
  have HFn : Hid (Fine s B) := hf
  have HD : Hid (Calls Tryz.prog 44 #[.pointer (some ⟨x, 0, none⟩)] (w.alloc (.map #[] 0)) (StrsPost (w.alloc (.map #[] 0)) s.words)) := words_any x F s B _ (h.2.frNo ((Fr.refl _ _).alloc _)) hf
  have HO : Hid (Off (cntW (hasOf s)) s.words) := fun u hu => by
    rcases Nat.eq_zero_or_pos (cntW (hasOf s) u) with e | e
    · exact e
    · exact absurd ((words_mem s u).2 (by omega)) hu
  have HND : Hid s.words.Nodup := words_nodup s
  have hN : s.words.length ≤ 117 := words_len hf
  have HM0 : Hid (MapFn (w.alloc (.map #[] 0)) w.heap.size kStr (fFreq (cntW (hasOf s)) (s.words.take 0))) := (mapFn_new w).congr (fun k => by simp [fFreq])
  have HFr : Hid (∀ w', Fr No w w' → ∀ u, Calls Tryz.prog 60 #[.pointer (some ⟨x, 0, none⟩), .string (str u)] w' fun e w'' => e = .returned (.int .i64 (cntW (hasOf s) u)) ∧ w'' = w') := fun w' f u => freq_any x F s B w' u (h.2.frNo f) hf
  generalize s.words = ks at *
  generalize cntW (hasOf s) = c at *
  obtain ⟨n, hn⟩ : ∃ n, ks.length = n := ⟨_, rfl⟩
  have HN : Hid (ks.length = n) := hn
  rw [hn] at hN
  clear hn h hf
  go_enter Tryz.func28, Tryz.ntmps28
  go_wp2_with (go_at_call 44; refine HD.out.mono ?_
               rintro e w1 ⟨v, rfl, hown, f1, -⟩
               obtain ⟨ao, cap, rfl, hcl⟩ := own_sl hown
               simp only [List.length_map, HN.out])
  have HM1 : Hid (MapFn w1 w.heap.size kStr (fFreq c (ks.take 0)) ∧ Fr No w w1) := ⟨HM0.out.fr f1 (fun h => h), ((Fr.refl No w).alloc _).trans f1⟩
  have hw1 : w.heap.size < w1.heap.size := by have := f1.size; simp only [World.size_alloc] at this; omega
  have hcl' : ∀ (j : Nat) (v : Value), (ks.map vStr)[j]? = some v → ∃ g o, ao = some ⟨g, o, none⟩ ∧ w1.cell? ⟨g, o + j, none⟩ = some v ∧ g ≠ w.heap.size := by
    intro j v hj
    obtain ⟨g, o, h1, h2⟩ := hcl j v hj
    subst h1
    refine ⟨g, o, rfl, h2, ?_⟩
    have := own_ge hown (k := g) rfl
    simp only [World.size_alloc] at this; omega
  clear hown f1 hcl
  go_loopw [24] (fun i wr => ∃ j : Nat, j ≤ n ∧ i = .int .i64 j ∧ MapFn wr w.heap.size kStr (fFreq c (ks.take j)) ∧ Fr (fun k => k = w.heap.size) w1 wr) (fun i _ => n - (intOf i).toNat)
  case atStart => exact ⟨0, Nat.zero_le _, rfl, HM1.out.1, Fr.refl _ _⟩
  case round =>
    obtain ⟨j, hj, rfl, hM, hF⟩ := hrel
    have hFw : Fr No w wr := HM1.out.2.trans' hF (fun i hi e => by omega)
    by_cases hlt : j < n
    · have hjl : j < ks.length := by rw [HN.out]; exact hlt
      obtain ⟨g, off, rfl, hc0, hgn⟩ := hcl' j (vStr ks[j]) (by simp [hjl])
      have hc0 : wr.cell? ⟨g, off + j, none⟩ = some (.string (str ks[j])) := hF.cell hc0 hgn
      have hry := frNo_cell hFw hr0
      have HQ : Hid (Calls Tryz.prog 60 #[.pointer (some ⟨x, 0, none⟩), .string (str ks[j])] wr fun e w'' => e = .returned (.int .i64 (c ks[j])) ∧ w'' = wr) := HFr.out wr hFw ks[j]
      obtain ⟨w3, hu3, hM3, ht3⟩ := hM.update' (P := Tryz.prog) (t := 103) keyStr Tryz.underlying103 ks[j] (.int .i64 (c ks[j]))
      have HZ : Hid (MapFn w3 w.heap.size kStr (fFreq c (ks.take (j + 1))) ∧ Fr (fun k => k = w.heap.size) w1 w3) := ⟨by rw [fFreq_succ c ks j hjl]; exact hM3, hF.trans ht3.fr⟩
      simp only [kStr] at hu3
      generalize c ks[j] = cu at *
      generalize ks[j] = u at *
      clear hcl' hM hF hFw hjl hM3 ht3
      go_wp2_with (go_at_call 60; refine HQ.out.mono ?_; rintro e w' ⟨rfl, hw⟩; have hw := hw.symm; subst hw)
      go_roundw
      case rel => exact ⟨j + 1, by omega, by go_num, HZ.out.1, HZ.out.2⟩
      case measure => simp [intOf]; omega
    · have HR : Hid (Calls Tryz.prog 61 #[.map (some w.heap.size)] wr (RankPost wr c ks) ∧ Fr No w wr) := by
        have e : j = n := by omega
        rw [e, List.take_of_length_le (by rw [HN.out]; omega)] at hM
        exact ⟨ranked_any c ks w.heap.size wr hM HO.out HND.out (by rw [HN.out]; omega), hFw⟩
      obtain ⟨kk, rfl⟩ : ∃ kk : Nat, k = (kk : Int) := ⟨k.toNat, by omega⟩
      have HE : Hid (∀ w5 A g cap5 mm, w5.ownsRow wr.heap.size 9 1 (.slice (some ⟨g, 0, none⟩) n cap5) n (A.map vStr) → A = rankL c ks → A.length = n → Fr No wr w5 → mm = min kk n → 0 < mm → StrsErr w (topL s kk) (topErr kk) (.returned (.tuple #[.slice (some ⟨g, 0, none⟩) mm cap5, .int .i64 0])) w5) := by
        intro w5 A g cap5 mm ho hA hl f5 hmm hpos
        have hT : topL s kk = A.take mm := by
          rw [HL.out.1, ← hA, Int.toNat_natCast, hmm]
          rcases Nat.le_total kk n with h | h
          · rw [Nat.min_eq_left h]
          · rw [Nat.min_eq_right h, List.take_of_length_le (by omega), List.take_of_length_le (by omega)]
        have hTl : (A.take mm).length = mm := by simp; omega
        rw [hT, HL.out.2]
        refine ⟨_, rfl, ?_, HR.out.2.trans f5, fun e => by rw [e] at hTl; simp at hTl; omega⟩
        rw [hTl, List.map_take]
        exact own_take (own_base ho HR.out.2.size) (by omega)
      have HE0 : Hid (∀ w5, Fr No wr w5 → min kk n = 0 → StrsErr w (topL s kk) (topErr kk) (.returned (.tuple #[.slice none 0 0, .int .i64 0])) w5) := by
        intro w5 f5 hm0
        have hT : topL s kk = [] := by
          have hlen : (rankL c ks).length = n := by
            have := rankAll_len c ks []
            unfold rankL; rw [this, HN.out]; simp
          rw [HL.out.1, Int.toNat_natCast, ← List.length_eq_zero_iff]
          simp only [List.length_take]; omega
        rw [hT, HL.out.2]
        exact ⟨_, rfl, own_nil _ _ _ _, HR.out.2.trans f5, fun _ => rfl⟩
      clear hcl' hM hF hFw
      by_cases hm0 : min kk n = 0
      · have HM00 : Hid (min kk n = 0) := hm0
        by_cases hnk : (n : Int) < (kk : Int)
        · have d1 : decide ((n : Int) < (kk : Int)) = true := by simpa using hnk
          have hn0 : ((n : Int) == 0) = true := by simp; omega
          clear hm0
          go_wp2_with (go_at_call 61; refine HR.out.1.mono ?_; rintro e w5 ⟨v, A, rfl, hown, hs, hm, hlen, f5, ao5, cap5, rfl⟩
                       rw [HN.out] at hlen
                       simp only [hlen] at hown ⊢
                       clear hlen)
          refine bodyPost_ret (v := .tuple #[.slice none 0 0, .int .i64 0]) (by simp [results, Tryz.results28, go_sem]) rfl (HE0.out _ f5 HM00.out)
        · have d1 : decide ((n : Int) < (kk : Int)) = false := by simpa using hnk
          have hn0 : ((kk : Int) == 0) = true := by simp; omega
          clear hm0
          go_wp2_with (go_at_call 61; refine HR.out.1.mono ?_; rintro e w5 ⟨v, A, rfl, hown, hs, hm, hlen, f5, ao5, cap5, rfl⟩
                       rw [HN.out] at hlen
                       simp only [hlen] at hown ⊢
                       clear hlen)
          refine bodyPost_ret (v := .tuple #[.slice none 0 0, .int .i64 0]) (by simp [results, Tryz.results28, go_sem]) rfl (HE0.out _ f5 HM00.out)
      · have hnp : 0 < n := by omega
        have hkp : 0 < kk := by omega
        by_cases hnk : (n : Int) < (kk : Int)
        · have d1 : decide ((n : Int) < (kk : Int)) = true := by simpa using hnk
          have hn0 : ((n : Int) == 0) = false := by simp; omega
          go_wp2_with (go_at_call 61; refine HR.out.1.mono ?_; rintro e w5 ⟨v, A, rfl, hown, hs, hm, hlen, f5, ao5, cap5, rfl⟩
                       rw [HN.out] at hlen
                       simp only [hlen] at hown ⊢
                       obtain ⟨g, cap', hv, -⟩ := own_at hown (by omega)
                       cases hv
                       have hnc : n ≤ cap5 := own_cap hown
                       have hncI : (n : Int) ≤ (cap5 : Int) := by omega
                       have hkcI : min (kk : Int) (n : Int) ≤ (cap5 : Int) := by omega
                       have HZ : Hid (StrsErr w (topL s kk) (topErr kk) (.returned (.tuple #[.slice (some ⟨g, 0, none⟩) n cap5, .int .i64 0])) w5) := HE.out w5 A g cap5 n hown (rank_unique c HND.out hs hm) hlen f5 (by omega) (by omega)
                       clear hlen hown hs hm)
          refine bodyPost_ret (v := .tuple #[.slice (some ⟨g, 0, none⟩) n cap5, .int .i64 0]) (by simp [results, Tryz.results28, go_sem]) rfl HZ.out
        · have d1 : decide ((n : Int) < (kk : Int)) = false := by simpa using hnk
          have hn0 : ((kk : Int) == 0) = false := by simp; omega
          have hkn : (kk : Int) ≤ (n : Int) := by omega
          have hknN : kk ≤ n := by omega
          go_wp2_with (go_at_call 61; refine HR.out.1.mono ?_; rintro e w5 ⟨v, A, rfl, hown, hs, hm, hlen, f5, ao5, cap5, rfl⟩
                       rw [HN.out] at hlen
                       simp only [hlen] at hown ⊢
                       obtain ⟨g, cap', hv, -⟩ := own_at hown (by omega)
                       cases hv
                       have hnc : n ≤ cap5 := own_cap hown
                       have hncI : (n : Int) ≤ (cap5 : Int) := by omega
                       have hkcI : min (kk : Int) (n : Int) ≤ (cap5 : Int) := by omega
                       have HZ : Hid (StrsErr w (topL s kk) (topErr kk) (.returned (.tuple #[.slice (some ⟨g, 0, none⟩) kk cap5, .int .i64 0])) w5) := HE.out w5 A g cap5 kk hown (rank_unique c HND.out hs hm) hlen f5 (by omega) (by omega)
                       clear hlen hown hs hm)
          refine bodyPost_ret (v := .tuple #[.slice (some ⟨g, 0, none⟩) kk cap5, .int .i64 0]) (by simp [results, Tryz.results28, go_sem]) rfl HZ.out
theorem top_any (h : QAt st0 w F y x s) (hf : Fine s B) : Calls Tryz.prog 28 #[.pointer (some ⟨y, 0, none⟩), .int .i64 k] w (StrsErr w (topL s k) (topErr k)) := by
  by_cases hk : 0 ≤ k ∧ k ≤ 4
  · exact top_good y x F s B k w h hf hk
  · exact top_bad y s k w hk
end
end Go.Proofs.Qxb6500357aGreat
