import Derived.Test.Qxb6500357aGreatAsk2
import Derived.Test.Qxb6500357aGreatShow
import Derived.Deep.RegionLawGrows
import Derived.Deep.CutRange
namespace Go.Proofs.Qxb6500357aGreat
open Go.RowKit Go.Tag
variable {st0 : Nat}
set_option linter.unusedVariables false
set_option linter.unusedSimpArgs false
set_option maxRecDepth 100000
attribute [local simp] str_size
attribute [local go_sem] str_size

theorem step_append_own {P : Program} {ops : Array Oper} {o : Oper} {a : Act} {w : World} {K : Act → World → Prop} {Q : Exit → Act → World → Prop} {E : Prop}
    (hg : o.guard = none) (s x : Operand) (t : TypeId) (hop : o.op = Op.call { callee := Callee.builtin Builtin.append, args := #[s, x], argTypes := #[t, t] })
    (e : TypeId) (i : TypeInfo) (z : Value) (size bytes : Nat) (h1 : P.underlying t = some (.slice e)) (h2 : P.info? e = some i) (h3 : i.zero = some z) (h4 : i.size = size) (h5 : i.bytes = bytes) (h6 : z.cells.size = size) (h7 : 0 < size)
    (base : Nat) (v : Value) (n : Nat) (olds : List Value) (hs : a.eval s = v) (ho : w.ownsRow base e size v n olds)
    (ad : Addr) (m c : Nat) (news : List Value) (hx : a.eval x = .slice (some ad) m c) (hn : news.length = m * size) (hc : ∀ j u, news[j]? = some u → w.cell? (ad.add j) = some u) (h1c : ∀ u ∈ news, u.oneCell' = true)
    (b1 : n + m ≤ maxLen) (b2 : (n + m) * bytes ≤ 140737488355328) (hb : base ≤ w.heap.size)
    (hK : ∀ v' w', w'.ownsRow base e size v' (n + m) (olds ++ news) → w.grownBy w' v.ownBlock → K (a.put o.dst v') w') :
    if Region.wanted o (yielded ops a.tmps) = true then Oper.wp P o a w K Q else E := by
  have hw : Region.wanted o (yielded ops a.tmps) = true := by simp [Region.wanted, hg]
  rw [if_pos hw]
  obtain ⟨v', w', hrun, r1, r2, _⟩ := run_append_own (P := P) w base t o.type e i z size bytes h1 h2 h3 h4 h5 h6 h7 v n olds ho ad m c news hn hc h1c b1 b2 hb
  unfold Oper.wp
  simp [execOp, hop, resolve, invoke, builtin, hs, hx, hrun, Result.andThen]
  exact hK v' w' r1 r2

def tallyL (s : St) (u : Word) : List Int := [0, 1, 2].map fun g => (cntBy (hasOf s) s.groupOf (g, u) : Int)
def wordStr (s : St) (u : Word) : List UInt8 := u ++ [61] ++ ints (s.holders u) ++ [64] ++ ints (tallyL s u) ++ [59]
/-- What the index shows. -/
def ixShow (s : St) : List UInt8 := s.show ++ [35] ++ s.words.flatMap (wordStr s)

theorem tallyL_get (s : St) (u : Word) (j : Nat) (h : j < 3) : (tallyL s u)[j]? = some (cntBy (hasOf s) s.groupOf ((j : Int), u) : Int) := by
  unfold tallyL
  rcases j with _ | _ | _ | j <;> first | rfl | omega
theorem tallyL_take (s : St) (u : Word) (j : Nat) (h : j < 3) : (tallyL s u).take (j + 1) = (tallyL s u).take j ++ [(cntBy (hasOf s) s.groupOf ((j : Int), u) : Int)] := by
  have := tallyL_get s u j h
  obtain ⟨h1, h2⟩ := List.getElem?_eq_some_iff.1 this
  rw [take_snoc _ _ h1, h2]
theorem tallyL_len (s : St) (u : Word) : (tallyL s u).length = 3 := by simp [tallyL]
theorem tallyL_mem (s : St) (u : Word) : ∀ n ∈ tallyL s u, 0 ≤ n ∧ n < 1000000000000000000 := by
  intro n hn
  obtain ⟨g, -, rfl⟩ := List.mem_map.1 hn
  have := cntBy_le (hasOf s) s.groupOf (g, u)
  omega
theorem holders_num (s : St) (u : Word) : ∀ n ∈ s.holders u, 0 ≤ n ∧ n < 1000000000000000000 := by
  intro n hn
  have := (mem_idsAll n).1 (List.mem_filter.1 hn).1
  omega
theorem wordStr_len {s : St} {B : Int} (h : Fine s B) {u : Word} (hu : u.length ≤ 12) : (wordStr s u).length ≤ 300 := by
  have h1 := ints_len (s.holders u)
  have h2 := ints_len (tallyL s u)
  have h3 : (s.holders u).length ≤ 9 := List.length_filter_le _ idsAll
  rw [tallyL_len] at h2
  simp [wordStr]; omega
theorem wordsStr_len {s : St} {B : Int} (h : Fine s B) : ∀ (l : List Word), (∀ u ∈ l, u.length ≤ 12) → (l.flatMap (wordStr s)).length ≤ 300 * l.length
  | [], _ => by simp
  | a :: l, hl => by
    have h1 := wordStr_len h (hl a (by simp))
    have h2 := wordsStr_len h l (fun u hu => hl u (by simp [hu]))
    simp only [List.flatMap_cons, List.length_append, List.length_cons]; omega
theorem word_short {s : St} {B : Int} (h : Fine s B) : ∀ u ∈ s.words, u.length ≤ 12 := fun u hu => (word_len h ((words_mem s u).1 hu)).2

/-- The tally's state. -/
def TallyI (w4 : World) (s : St) (u : Word) (j : Nat) (v : Value) (wr : World) : Prop :=
  wr.ownsRow w4.heap.size 3 1 v j (((tallyL s u).take j).map (Value.int .i64)) ∧ Fr No w4 wr

section
variable (x : Nat) (F : Nat → Prop) (s : St) (B : Int) (w : World)
set_option maxHeartbeats 1000000 in
theorem ixShow_any (h : Both st0 w F x s) (hf : Fine s B) (hB : B < 1000000000000000000) : Calls Tryz.prog 15 #[.pointer (some ⟨x, 0, none⟩)] w (StrPost w (ixShow s)) := by
  have HB : Hid (Both st0 w F x s ∧ Fine s B) := ⟨h, hf⟩
  obtain ⟨b, bd, br, bg, p, bi, bb, q, Fs, Fi, hb, hF⟩ := h
  have hr0 : w.cell? ⟨x, 0, none⟩ = some (.pointer (some ⟨b, 0, none⟩)) := by rw [cell_of_heap hb.ix.root]; rfl
  have HX : Hid (∀ w', Fr No w w' → IndexAt w' Fi x b bi bb (hasOf s) s.groupOf q) := fun w' f => hb.ix.fr f (fun _ _ h => h)
  have HC : Hid (Calls Tryz.prog 16 #[.pointer (some ⟨b, 0, none⟩)] w (StrPost w s.show)) := storeShow_any b bd br bg p Fs s B w hb.st hf hB
  have hsl := show_len hf
  have hwl := words_len hf
  obtain ⟨n, hn⟩ : ∃ n, s.words.length = n := ⟨_, rfl⟩
  have HN : Hid (s.words.length = n) := hn
  rw [hn] at hwl
  clear hb hF hn hf hB
  go_enter Tryz.func15, Tryz.ntmps15
  go_wp2_with first
    | (go_at_call 16; refine HC.out.mono ?_; rintro e w1 ⟨rfl, f1⟩)
    | (go_at_call 44; refine (words_any x F s B _ (HB.out.1.frNo f1) HB.out.2).mono ?_; rintro e w2 ⟨v, rfl, hown, f2, -⟩
       have HS : Hid (Sl w2 v (s.words.map vStr) ∧ Fr No w w2) := ⟨own_sl hown, f1.trans f2⟩
       obtain ⟨ao, cap, rfl, hcl⟩ := own_sl hown
       simp only [List.length_map, HN.out] at HS ⊢
       clear hown f2 f1)
  go_loopw [3, 5] (fun t i wr => ∃ j : Nat, j ≤ n ∧ i = .int .i64 j ∧ t = .string (str (s.show ++ [35] ++ (s.words.take j).flatMap (wordStr s))) ∧ Fr No w2 wr) (fun _ i _ => n - (intOf i).toNat)
  case atStart => exact ⟨0, Nat.zero_le _, rfl, by simp only [List.take_zero, List.flatMap_nil, List.append_nil, ← str_append]; rfl, Fr.refl _ _⟩
  case round =>
    obtain ⟨j, hj, rfl, rfl, hF2⟩ := hrel
    by_cases hlt : j < n
    · have hjl : j < s.words.length := by rw [HN.out]; exact hlt
      obtain ⟨g, off, rfl, hc0⟩ := hcl j (vStr s.words[j]) (by simp [hjl])
      have hc0 : wr.cell? ⟨g, off + j, none⟩ = some (.string (str s.words[j])) := frNo_cell hF2 hc0
      have hu12 := word_short HB.out.2 s.words[j] (List.getElem_mem hjl)
      have HK : Hid (s.show ++ [35] ++ (s.words.take (j + 1)).flatMap (wordStr s) = s.show ++ [35] ++ (s.words.take j).flatMap (wordStr s) ++ s.words[j] ++ [61] ++ ints (s.holders s.words[j]) ++ [64] ++ ints (tallyL s s.words[j]) ++ [59]) := by
        show _ = _
        rw [take_snoc _ _ hjl, List.flatMap_append]
        simp [wordStr]
      have hlen : (s.show ++ [35] ++ (s.words.take j).flatMap (wordStr s)).length ≤ 40000 := by
        have h1 := wordsStr_len HB.out.2 (s.words.take j) (fun u hu => word_short HB.out.2 u (List.mem_of_mem_take hu))
        have h2 : (s.words.take j).length ≤ n := by simp; omega
        simp only [List.length_append, List.length_singleton]; omega
      generalize s.words[j] = u at *
      generalize s.show ++ [35] ++ (s.words.take j).flatMap (wordStr s) = T0 at *
      have hfw : Fr No w wr := HS.out.2.trans hF2
      have HD : Hid (Calls Tryz.prog 45 #[.pointer (some ⟨x, 0, none⟩), .string (str u)] wr (IntsPost wr (s.holders u))) := docs_any x F s B u wr (HB.out.1.frNo hfw) HB.out.2
      have HW : Hid (Fr No w wr ∧ Fr No w2 wr) := ⟨hfw, hF2⟩
      clear hcl hjl hfw hF2
      go_wp2_with (go_at_call 45; refine HD.out.mono ?_; rintro e w4 ⟨v6, rfl, hown6, f4, -⟩)
      have HW4 : Hid (Fr No w w4 ∧ Fr No w2 w4 ∧ w4.ownsRow wr.heap.size 3 1 v6 (s.holders u).length ((s.holders u).map (Value.int .i64))) := ⟨HW.out.1.trans f4, HW.out.2.trans f4, hown6⟩
      have hc4 := frNo_cell f4 hc0
      clear HW hown6 f4
      go_loopw [7, 31] (fun v7 i wr' => ∃ k : Nat, k ≤ 3 ∧ i = .int .i64 k ∧ TallyI w4 s u k v7 wr') (fun _ i _ => 3 - (intOf i).toNat)
      case atStart => exact ⟨0, by omega, rfl, own_nil _ _ _ _, Fr.refl _ _⟩
      case round =>
        obtain ⟨k, hk, rfl, hI⟩ := hrel
        have hfw : Fr No w wr := HW4.out.1.trans hI.2
        have hix := HX.out wr hfw
        have hc5 := frNo_cell hI.2 hc4
        by_cases hlt3 : k < 3
        · have hr2 : wr.cell? ⟨x, 2, none⟩ = some (.map (some bb)) := by rw [cell_of_heap hix.root]; rfl
          have hlk : (Instr.lookup 72 (.map (some bb)) (.agg #[.int .i64 (k : Int), .string (str u)]) false).run Tryz.prog wr.drew = .ok (.int .i64 (cntBy (hasOf s) s.groupOf ((k : Int), u))) wr.drew := by
            have := (hix.by_.fr ((Fr.refl No wr).drew) (fun h => h)).lookup_v (P := Tryz.prog) (t := 72) keyPair Tryz.underlying72 (zero3 _) ((k : Int), u)
            rw [fBy_getD] at this; exact this
          have hcb := cntBy_le (hasOf s) s.groupOf ((k : Int), u)
          have HT : Hid (∀ o v' w', (wr.alloc o).drew.grownBy w' u7.ownBlock → w'.ownsRow w4.heap.size 3 1 v' (k + 1) (((tallyL s u).take k).map (Value.int .i64) ++ [.int .i64 (cntBy (hasOf s) s.groupOf ((k : Int), u))]) → TallyI w4 s u (k + 1) v' w') := by
            intro o v' w' hg ho
            refine ⟨?_, ?_⟩
            · rw [tallyL_take s u k hlt3, List.map_append]; exact ho
            · exact (((hI.2.alloc o).drew)).grown hg (fun i hi => .inl (own_ge hI.1 hi).1)
          have hown : ∀ o, (wr.alloc o).drew.ownsRow w4.heap.size 3 1 u7 k (((tallyL s u).take k).map (Value.int .i64)) := fun o => own_fr hI.1 (((Fr.refl No wr).alloc o).drew) (fun _ _ h => h)
          have hbs : w4.heap.size ≤ wr.heap.size := hI.2.size
          have HO : Hid _ := hown
          obtain ⟨i0, hi, hz0, hz1, hz2⟩ := info_parts info3
          generalize cntBy (hasOf s) s.groupOf ((k : Int), u) = cb at *
          clear hI hix hfw hown
          go_wp2
          go_region_law (refine step_append_own rfl (.tmp 34) (.tmp 46) 55 rfl 3 i0 (.int .i64 0) 1 8 Tryz.underlying55 hi hz0 hz1 hz2 rfl (by decide) w4.heap.size u7 k _ (by simp [Act.eval, Act.put]) (HO.out _) ⟨wr.heap.size, 0, none⟩ 1 1 [.int .i64 cb] (by simp [Act.eval, Act.put]) rfl (cell_one_new _ _ _) (by intro u hu; simp only [List.mem_singleton] at hu; subst hu; rfl) (by unfold maxLen; omega) (by omega) (by simp; omega) ?_; intro v' w' hown' hgrow)
          all_goals
            have HT1 : Hid (TallyI w4 s u (k + 1) v' w') := HT.out _ v' w' hgrow hown'
            clear hgrow hown' HO HT
            go_wp2
            go_roundw
            case rel => exact ⟨k + 1, by omega, by go_num, HT1.out⟩
            case measure => simp [intOf]; omega
        · obtain rfl : k = 3 := by omega
          have hT3 : (tallyL s u).take 3 = tallyL s u := List.take_of_length_le (by rw [tallyL_len]; omega)
          have HC1 : Hid (Calls Tryz.prog 46 #[v6] wr fun e w' => e = .returned (.string (str (ints (s.holders u)))) ∧ Fr No wr w') := ints_any v6 (s.holders u) wr (own_sl (own_fr HW4.out.2.2 hI.2 (fun _ _ h => h))) (holders_num s u) (by have := List.length_filter_le (hasOf s u) idsAll; show (s.holders u).length ≤ 1000; unfold St.holders; simp [idsAll] at this ⊢; omega)
          have HS7 : Hid (Sl wr u7 ((tallyL s u).map (Value.int .i64))) := by have := own_sl hI.1; rw [hT3] at this; exact this
          have HFw : Hid (Fr No w2 wr) := HW4.out.2.1.trans hI.2
          have l1 := ints_len (s.holders u)
          have l3 : (s.holders u).length ≤ 9 := List.length_filter_le _ idsAll
          have l2 := ints_len (tallyL s u)
          rw [tallyL_len] at l2
          have HTN : Hid ((∀ n ∈ tallyL s u, 0 ≤ n ∧ n < 1000000000000000000) ∧ (tallyL s u).length ≤ 1000) := ⟨tallyL_mem s u, by rw [tallyL_len]; omega⟩
          clear hI hix hfw hT3
          go_wp2_with (go_at_call 46
                       first
                         | (refine (HC2.out).mono ?_
                            rintro e w6 ⟨rfl, f6⟩
                            have hc7 := frNo_cell f6 hc6)
                         | (refine (HC1.out).mono ?_
                            rintro e w5 ⟨rfl, f5⟩
                            have hc6 := frNo_cell f5 hc5
                            have HC2 : Hid (Calls Tryz.prog 46 #[u7] w5 fun e w' => e = .returned (.string (str (ints (tallyL s u)))) ∧ Fr No w5 w') := ints_any u7 (tallyL s u) w5 (HS7.out.fr f5) HTN.out.1 HTN.out.2))
          go_roundw
          case rel => exact ⟨j + 1, by omega, by go_num, by rw [HK.out]; simp only [← str_append]; rfl, (HFw.out.trans f5).trans f6⟩
          case measure => simp [intOf]; omega
    · have HE : Hid (ixShow s = s.show ++ [35] ++ (s.words.take j).flatMap (wordStr s)) := by
        show _ = _
        rw [List.take_of_length_le (by rw [HN.out]; omega)]; rfl
      have HFw : Hid (Fr No w wr) := HS.out.2.trans hF2
      clear hcl hF2
      go_wp2
      go_ret
      exact ⟨by rw [HE.out]; rfl, HFw.out⟩
end
end Go.Proofs.Qxb6500357aGreat
