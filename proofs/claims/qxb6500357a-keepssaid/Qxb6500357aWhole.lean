import Derived.Test.Qxb6500357aHead
import Derived.Test.Qxb6500357aIxShow
namespace Go.Proofs.Qxb6500357a
open Go.RowKit Go.Tag
set_option linter.unusedVariables false
set_option linter.unusedSimpArgs false
set_option maxRecDepth 100000
attribute [local simp] str_size
attribute [local go_sem] str_size

theorem row_tally {w : World} {b : Nat} {s : St} {u : Word} (h : RowK w b 3 (fun g => .int .i64 (cntBy (hasOf s) s.groupOf ((g : Int), u) : Nat))) : Sl w (.slice (some ⟨b, 0, none⟩) 3 3) ((tallyL s u).map (Value.int .i64)) :=
  h.sl (by simp [tallyL_len]) (fun i hi => by rw [List.getElem?_map, tallyL_get s u i hi]; rfl)

set_option maxHeartbeats 1000000 in
theorem whole_any (gb t0 g0 x0 p0 : Nat) (s : St) (B : Int) (v : Value) (w : World) (h : GhostAt w gb t0 g0 x0 p0 s) (hv : SlW w v s.words) (hf : Fine s B) (hB : B < 1000000000000000000) : Calls Try.prog 17 #[.pointer (some ⟨gb, 0, none⟩), v] w (StrPost w (ixShow s)) := by
  have HG : Hid (∀ wr, Fr No w wr → GhostAt wr gb t0 g0 x0 p0 s) := fun wr f => GhostR.fr h f (fun _ _ h => h)
  have HF : Hid (Fine s B) := hf
  have HH : Hid (Calls Try.prog 44 #[.pointer (some ⟨gb, 0, none⟩)] w (StrPost w (s.show ++ [35]))) := head_any gb t0 g0 x0 p0 s B w h hf hB
  have hwl := words_len hf
  have hshl := show_len hf
  obtain ⟨n, hn⟩ : ∃ n, s.words.length = n := ⟨_, rfl⟩
  have HN : Hid (s.words.length = n) := hn
  obtain ⟨ao, cap, rfl, hcl⟩ := hv.sl
  rw [List.length_map, hn]
  rw [hn] at hwl
  clear h hv hf hB hn
  have HSH : Hid (∀ j, s.show ++ [35] ++ (s.words.take j).flatMap (wordStr s) = s.show ++ [35] ++ (s.words.take j).flatMap (wordStr s)) := fun j => rfl
  go_enter Try.func17, Try.ntmps17
  go_wp2_with (go_at_call 44; refine HH.out.mono ?_; rintro e w1 ⟨rfl, f1⟩)
  go_loopw [5, 6] (fun t i wr => ∃ j : Nat, j ≤ n ∧ i = .int .i64 j ∧ t = .string (str (s.show ++ [35] ++ (s.words.take j).flatMap (wordStr s))) ∧ Fr No w wr) (fun _ i _ => n - (intOf i).toNat)
  case atStart => exact ⟨0, Nat.zero_le _, rfl, by simp, f1⟩
  case round =>
    obtain ⟨j, hj, rfl, rfl, hF2⟩ := hrel
    by_cases hlt : j < n
    · have hjl : j < s.words.length := by rw [HN.out]; exact hlt
      obtain ⟨g, off, rfl, hc0⟩ := hcl j (.string (str s.words[j])) (by simp [hjl])
      have hc0 : wr.cell? ⟨g, off + j, none⟩ = some (.string (str s.words[j])) := frNo_cell hF2 hc0
      have hu12 := word_short HF.out s.words[j] (List.getElem_mem hjl)
      have HK : Hid (s.show ++ [35] ++ (s.words.take (j + 1)).flatMap (wordStr s) = s.show ++ [35] ++ (s.words.take j).flatMap (wordStr s) ++ s.words[j] ++ [61] ++ ints (s.holders s.words[j]) ++ [64] ++ ints (tallyL s s.words[j]) ++ [59]) := by
        show _ = _
        rw [take_snoc _ _ hjl, List.flatMap_append]
        simp [wordStr]
      have hlen : (s.show ++ [35] ++ (s.words.take j).flatMap (wordStr s)).length ≤ 40000 := by
        have h1 := wordsStr_len HF.out (s.words.take j) (fun u hu => word_short HF.out u (List.mem_of_mem_take hu))
        have h2 : (s.words.take j).length ≤ n := by simp; omega
        simp only [List.length_append, List.length_singleton]; omega
      generalize s.words[j] = u at *
      generalize s.show ++ [35] ++ (s.words.take j).flatMap (wordStr s) = T0 at *
      have HD : Hid (Calls Try.prog 45 #[.pointer (some ⟨gb, 0, none⟩), .string (str u)] wr (HoldPost wr s u)) := holding_any gb t0 g0 x0 p0 s B u wr (HG.out wr hF2) HF.out (by omega)
      have HW : Hid (Fr No w wr) := hF2
      have l1 := ints_len (s.holders u)
      have l3 : (s.holders u).length ≤ 9 := List.length_filter_le _ idsAll
      have l2 := ints_len (tallyL s u)
      rw [tallyL_len] at l2
      have HI1 : Hid (∀ w' v', Sl w' v' ((s.holders u).map (Value.int .i64)) → Calls Try.prog 46 #[v'] w' fun e w'' => e = .returned (.string (str (ints (s.holders u)))) ∧ Fr No w' w'') := fun w' v' hs => ints_any v' (s.holders u) w' hs (holders_num s u) (by omega)
      have HI2 : Hid (∀ w' v', Sl w' v' ((tallyL s u).map (Value.int .i64)) → Calls Try.prog 46 #[v'] w' fun e w'' => e = .returned (.string (str (ints (tallyL s u)))) ∧ Fr No w' w'') := fun w' v' hs => ints_any v' (tallyL s u) w' hs (tallyL_mem s u) (by rw [tallyL_len]; omega)
      clear hcl hjl hF2
      generalize hT1 : ints (s.holders u) = T1 at *
      generalize hT2 : ints (tallyL s u) = T2 at *
      clear hT1 hT2
      go_wp2_with first
        | (go_at_call 45; refine HD.out.mono ?_; rintro e w2 ⟨v6, b, rfl, hown6, hrow6, -, f2⟩
           have hc2 := frNo_cell f2 hc0
           have HS6 : Hid (Sl w2 v6 ((s.holders u).map (Value.int .i64)) ∧ Sl w2 (.slice (some ⟨b, 0, none⟩) 3 3) ((tallyL s u).map (Value.int .i64))) := ⟨own_sl hown6, row_tally hrow6⟩
           clear hown6 hrow6)
        | (go_at_call 46
           first
             | (refine (HI2.out w3 _ (HS6.out.2.fr f3)).mono ?_
                rintro e w4 ⟨rfl, f4⟩
                have hc4 := frNo_cell f4 hc3)
             | (refine (HI1.out w2 _ HS6.out.1).mono ?_
                rintro e w3 ⟨rfl, f3⟩
                have hc3 := frNo_cell f3 hc2))
      go_roundw
      case rel => exact ⟨j + 1, by omega, by go_num, by rw [HK.out]; simp only [← str_append]; rfl, ((HW.out.trans f2).trans f3).trans f4⟩
      case measure => simp [intOf]; omega
    · have HE : Hid (ixShow s = s.show ++ [35] ++ (s.words.take j).flatMap (wordStr s)) := by
        show _ = _
        rw [List.take_of_length_le (by rw [HN.out]; omega)]; rfl
      have HFw : Hid (Fr No w wr) := hF2
      clear hcl hF2
      go_wp2
      go_ret
      exact ⟨by rw [HE.out]; rfl, HFw.out⟩
end Go.Proofs.Qxb6500357a
