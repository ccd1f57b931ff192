/- The model's query. -/
import Derived.Test.Qxb6500357aGreatMIx4
import Derived.Test.Qxb6500357aGreatFind
import Derived.Test.Qxb6500357aGreatGroups
import Derived.Deep.CutRange
namespace Go.Tag
open Go.RowKit Go.Proofs.Qxb6500357aGreat
set_option linter.unusedVariables false
set_option linter.unusedSimpArgs false
/-- The model's query at y. -/
structure MQ (w : World) (F : Nat → Prop) (y x b : Nat) (s : St) : Prop where
  root : w.heap[y]? = some (.cells #[.pointer (some ⟨x, 0, none⟩)] 51)
  ix : MX w F x b s
  ne : ¬ FX F x y
theorem MQ.frNo {w w' : World} {F : Nat → Prop} {y x b : Nat} {s : St} (h : MQ w F y x b s) (f : Fr No w w') : MQ w' F y x b s := ⟨f.heap h.root (fun h => h), h.ix.frNo f, h.ne⟩
theorem MQ.cell {w : World} {F : Nat → Prop} {y x b : Nat} {s : St} (h : MQ w F y x b s) : w.cell? ⟨y, 0, none⟩ = some (.pointer (some ⟨x, 0, none⟩)) ∧ y < w.heap.size := ⟨by rw [cell_of_heap h.root]; rfl, lt_of_heap h.root⟩
def findTo (s : St) (op : Int) (a b : Word) (j : Nat) : List Int := (idsAll.take j).filter (findSet s op a b)
theorem findTo_succ (s : St) (op : Int) (a b : Word) (j : Nat) (h : j < 9) : findTo s op a b (j + 1) = findTo s op a b j ++ (if findSet s op a b ((j : Int) + 1) then [(j : Int) + 1] else []) := by
  have hl : idsAll.length = 9 := rfl
  have hg : idsAll[j]? = some ((j : Int) + 1) := by
    rcases j with _ | _ | _ | _ | _ | _ | _ | _ | _ | j <;> first | rfl | omega
  unfold findTo
  rw [take_snoc idsAll j (by omega), List.filter_append]
  rw [List.getElem?_eq_getElem (by omega), Option.some.injEq] at hg
  rw [hg]
  congr 1
  by_cases e : findSet s op a b ((j : Int) + 1) = true <;> simp [e]
theorem findTo_len (s : St) (op : Int) (a b : Word) (j : Nat) : (findTo s op a b j).length ≤ 9 := by
  unfold findTo
  refine Nat.le_trans (List.length_filter_le _ _) ?_
  rw [List.length_take]
  exact Nat.min_le_right _ _
end Go.Tag
namespace Go.Proofs.Qxb6500357aGreat
open Go.RowKit Go.Tag
set_option linter.unusedVariables false
set_option linter.unusedSimpArgs false
set_option maxRecDepth 100000
attribute [local simp] str_size
attribute [local go_sem] str_size
def MXIntsErr (w : World) (F : Nat → Prop) (x b : Nat) (s : St) (L : List Int) (er : Int) (e : Ending) (w' : World) : Prop := ∃ v, e = .returned (.tuple #[v, .int .i64 er]) ∧ w'.ownsRow w.heap.size 3 1 v L.length (L.map (Value.int .i64)) ∧ MX w' F x b s ∧ Fr (FX F x) w w' ∧ (L = [] → v = .slice none 0 0)
theorem mqNew_any (w : World) : Calls Tryz.prog 9 #[] w fun e w' => ∃ y x b, e = .returned (.pointer (some ⟨y, 0, none⟩)) ∧ MQ w' (fun k => k = b) y x b St.new ∧ w.heap.size ≤ b ∧ w.heap.size ≤ x ∧ w.heap.size ≤ y ∧ Fr No w w' := by
  go_enter Tryz.func9, Tryz.ntmps9
  go_wp2_with (go_at_call 20; refine (mxNew_any w).mono ?_; rintro e w1 ⟨x, b, rfl, hM, hb, hx, f1⟩)
  go_ret
  have hl := hM.lt
  have hbl := hl b (.inl rfl)
  have hxl := hl x (.inr rfl)
  refine ⟨w1.heap.size, x, b, rfl, ⟨heap_alloc_new w1 _, hM.frNo ((Fr.refl No w1).alloc _), ?_⟩, hb, hx, f1.size, f1.alloc _⟩
  rintro (e | e)
  · have : w1.heap.size = b := e; omega
  · omega
section
variable (y x b : Nat) (F : Nat → Prop) (s : St) (B : Int) (w : World)
theorem mqPut_any (id g : Int) (t : List UInt8) (h : MQ w F y x b s) (hf : Fine s B) (hB : B < 1000000000000000000) : Calls Tryz.prog 35 #[.pointer (some ⟨y, 0, none⟩), .int .i64 id, .int .i64 g, .string (str t)] w (MXTurn w F x b (s.putR id g t) (.int .i64 (s.putErr id g t))) := by
  by_cases ht : 12 < t.length
  · have hE : s.putErr id g t = 1 := by unfold St.putErr; rw [if_pos ht]
    have HZ : Hid (MXTurn w F x b (s.putR id g t) (.int .i64 (s.putErr id g t)) (.returned (.int .i64 1)) w) := by
      have : s.putR id g t = s := by unfold St.putR; rw [if_neg (by rw [hE]; decide)]
      rw [this, hE]; exact mx_keep h.ix _
    have hd : decide ((12 : Int) < (t.length : Int)) = true := by simp; omega
    clear hE h
    go_enter Tryz.func35, Tryz.ntmps35
    go_wp2
    go_ret
    exact HZ.out
  · have hd : decide ((12 : Int) < (t.length : Int)) = false := by simp; omega
    obtain ⟨c0, hyl⟩ := h.cell
    have HC : Hid (Calls Tryz.prog 68 #[.pointer (some ⟨x, 0, none⟩), .int .i64 id, .int .i64 g, .string (str t)] w (MXTurn w F x b (s.putR id g t) (.int .i64 (s.putErr id g t)))) := mxPut_any x b F s B w id g t h.ix hf hB
    clear h hf hB
    go_enter Tryz.func35, Tryz.ntmps35
    go_wp2_with (go_at_call 68; refine HC.out.mono ?_; rintro e w1 ⟨rfl, h1, h2⟩)
    go_ret
    exact ⟨rfl, h1, h2⟩
theorem mqDel_any (id : Int) (h : MQ w F y x b s) (hf : Fine s B) : Calls Tryz.prog 36 #[.pointer (some ⟨y, 0, none⟩), .int .i64 id] w (MXTurn w F x b (s.delR id) (.int .i64 (s.getErr id))) := by
  obtain ⟨c0, hyl⟩ := h.cell
  have HC : Hid (Calls Tryz.prog 69 #[.pointer (some ⟨x, 0, none⟩), .int .i64 id] w (MXTurn w F x b (s.delR id) (.int .i64 (s.getErr id)))) := mxDel_any x b F s B w id h.ix hf
  clear h
  go_enter Tryz.func36, Tryz.ntmps36
  go_wp2_with (go_at_call 69; refine HC.out.mono ?_; rintro e w1 ⟨rfl, h1, h2⟩)
  go_ret
  exact ⟨rfl, h1, h2⟩
theorem mqDrop_any (g : Int) (h : MQ w F y x b s) (hl : s.ids.length ≤ 9) : Calls Tryz.prog 37 #[.pointer (some ⟨y, 0, none⟩), .int .i64 g] w (MXTurn w F x b (s.drop g) (.int .i64 (s.cnt g : Int))) := by
  obtain ⟨c0, hyl⟩ := h.cell
  have HC : Hid (Calls Tryz.prog 70 #[.pointer (some ⟨x, 0, none⟩), .int .i64 g] w (MXTurn w F x b (s.drop g) (.int .i64 (s.cnt g : Int)))) := mxDrop_any x b F s w g h.ix hl
  clear h
  go_enter Tryz.func37, Tryz.ntmps37
  go_wp2_with (go_at_call 70; refine HC.out.mono ?_; rintro e w1 ⟨rfl, h1, h2⟩)
  go_ret
  exact ⟨rfl, h1, h2⟩
theorem mqShow_any (h : MQ w F y x b s) (hf : Fine s B) (hB : B < 1000000000000000000) : Calls Tryz.prog 14 #[.pointer (some ⟨y, 0, none⟩)] w (MXAsk w F x b s (.string (str (ixShow s)))) := by
  obtain ⟨c0, hyl⟩ := h.cell
  have HC : Hid (Calls Tryz.prog 43 #[.pointer (some ⟨x, 0, none⟩)] w (MXAsk w F x b s (.string (str (ixShow s))))) := mxShow_any x b F s B w h.ix hf hB
  clear h
  go_enter Tryz.func14, Tryz.ntmps14
  go_wp2_with (go_at_call 43; refine HC.out.mono ?_; rintro e w1 ⟨rfl, h1, h2⟩)
  go_ret
  exact ⟨rfl, h1, h2⟩
theorem mqLen_any (h : MQ w F y x b s) : Calls Tryz.prog 41 #[.pointer (some ⟨y, 0, none⟩)] w (MXAsk w F x b s (.int .i64 s.ids.length)) := by
  obtain ⟨c0, hyl⟩ := h.cell
  have HC : Hid (Calls Tryz.prog 76 #[.pointer (some ⟨x, 0, none⟩)] w (MXAsk w F x b s (.int .i64 s.ids.length))) := mxLen_any x b F s w h.ix
  clear h
  go_enter Tryz.func41, Tryz.ntmps41
  go_wp2_with (go_at_call 76; refine HC.out.mono ?_; rintro e w1 ⟨rfl, h1, h2⟩)
  go_ret
  exact ⟨rfl, h1, h2⟩
theorem mqReset_any (h : MQ w F y x b s) : Calls Tryz.prog 42 #[.pointer (some ⟨y, 0, none⟩)] w (MXTurn w F x b s.reset (.int .i64 s.ids.length)) := by
  obtain ⟨c0, hyl⟩ := h.cell
  have HC : Hid (Calls Tryz.prog 77 #[.pointer (some ⟨x, 0, none⟩)] w (MXTurn w F x b s.reset (.int .i64 s.ids.length))) := mxReset_any x b F s w h.ix
  clear h
  go_enter Tryz.func42, Tryz.ntmps42
  go_wp2_with (go_at_call 77; refine HC.out.mono ?_; rintro e w1 ⟨rfl, h1, h2⟩)
  go_ret
  exact ⟨rfl, h1, h2⟩
end
set_option maxHeartbeats 1000000 in
theorem in_any (v : Value) (L : List Int) (id : Int) (w : World) (hv : Sl w v (L.map (Value.int .i64))) (hl : L.length ≤ 1000) : Calls Tryz.prog 72 #[v, .int .i64 id] w fun e w' => e = .returned (.bool (decide (id ∈ L))) ∧ w' = w := by
  obtain ⟨a0, cap, rfl, hc⟩ := hv
  rw [List.length_map]
  have HC : Hid (∀ i (h : i < L.length), ∃ g o, a0 = some ⟨g, o, none⟩ ∧ w.cell? ⟨g, o + i, none⟩ = some (.int .i64 L[i])) := fun i h => by
    obtain ⟨g, o, e1, e2⟩ := hc i (.int .i64 L[i]) (by simp [h])
    exact ⟨g, o, e1, e2⟩
  obtain ⟨n, hn⟩ : ∃ n, L.length = n := ⟨_, rfl⟩
  have HN : Hid (L.length = n) := hn
  rw [hn] at hl ⊢
  generalize hbb : decide (id ∈ L) = bb at *
  have HBB : Hid (decide (id ∈ L) = bb) := hbb
  clear hbb hc hn
  go_enter Tryz.func72, Tryz.ntmps72
  go_wp2
  go_loop [5] (fun i => ∃ j : Nat, j ≤ n ∧ i = .int .i64 j ∧ Hid (id ∉ L.take j)) (fun i => n - (intOf i).toNat)
  case atStart => exact ⟨0, Nat.zero_le _, rfl, by rw [Hid]; simp⟩
  case round =>
    obtain ⟨j, hj, rfl, hno⟩ := hrel
    by_cases hlt : j < n
    · have hjl : j < L.length := by rw [HN.out]; exact hlt
      obtain ⟨g, o, rfl, hcj⟩ := HC.out j hjl
      have hd1 : (j : Int) < (n : Int) := by omega
      by_cases he : L[j] = id
      · have hb : (L[j] == id) = true := by simpa using he
        have HE : Hid (bb = true) := by rw [Hid, ← HBB.out, decide_eq_true_eq, ← he]; exact List.getElem_mem hjl
        clear he
        generalize L[j] = lj at *
        go_wp2
        go_ret
        exact ⟨by rw [HE.out]; rfl, rfl⟩
      · have hb : (L[j] == id) = false := by simpa using he
        have HK : Hid (id ∉ L.take (j + 1)) := by
          rw [Hid, take_snoc L j hjl, List.mem_append, List.mem_singleton]
          rintro (h | h)
          · exact hno.out h
          · exact he h.symm
        clear he
        generalize L[j] = lj at *
        go_wp2
        go_round
        case rel => exact ⟨j + 1, by omega, by go_num, HK⟩
        case measure => simp [intOf]; omega
    · have HE : Hid (bb = false) := by
        rw [Hid, ← HBB.out, decide_eq_false_iff_not]
        have := hno.out
        rw [List.take_of_length_le (by rw [HN.out]; omega)] at this
        exact this
      have hd1 : ¬ (j : Int) < (n : Int) := by omega
      go_wp2
      go_ret
      exact ⟨by rw [HE.out]; rfl, rfl⟩
/-- The find's loop. -/
structure FindI (w : World) (w2 : World) (F : Nat → Prop) (x b : Nat) (s : St) (op : Int) (p q : Word) (j : Nat) (v : Value) (wr : World) : Prop where
  fr : Fr No w2 wr
  own : wr.ownsRow w2.heap.size 3 1 v (findTo s op p q j).length ((findTo s op p q j).map (Value.int .i64))
  nil : findTo s op p q j = [] → v = .slice none 0 0
section
variable (y x b : Nat) (F : Nat → Prop) (s : St) (B : Int) (w : World)
set_option maxHeartbeats 4000000 in
theorem mqFind_any (op : Int) (p q : Word) (h : MQ w F y x b s) (hf : Fine s B) : Calls Tryz.prog 38 #[.pointer (some ⟨y, 0, none⟩), .int .i64 op, .string (str p), .string (str q)] w (MXIntsErr w F x b s (findL s op p q) (findErr op p q)) := by
  by_cases hlong : 12 < p.length ∨ 12 < q.length
  · have HE : Hid (MXIntsErr w F x b s (findL s op p q) (findErr op p q) (.returned (.tuple #[.slice none 0 0, .int .i64 1])) w) := by
      have e : findErr op p q = 1 := by unfold findErr; rw [if_pos hlong]
      have e2 : findL s op p q = [] := by unfold findL; rw [if_neg (by rw [e]; decide)]
      rw [e, e2]
      exact ⟨_, rfl, own_nil _ _ _ _, h.ix, Fr.refl _ _, fun _ => rfl⟩
    have hd : (decide ((12 : Int) < (p.length : Int)) = true ∧ (12 : Int) < (p.length : Int)) ∨ (decide ((12 : Int) < (p.length : Int)) = false ∧ ¬ (12 : Int) < (p.length : Int) ∧ decide ((12 : Int) < (q.length : Int)) = true ∧ (12 : Int) < (q.length : Int)) := by
      by_cases h1 : 12 < p.length
      · left; exact ⟨by simp; omega, by omega⟩
      · right; exact ⟨by simp; omega, by omega, by simp; omega, by omega⟩
    clear h hf hlong
    rcases hd with ⟨e1, e2⟩ | ⟨e1, e2, e3, e4⟩
    all_goals
      go_enter Tryz.func38, Tryz.ntmps38
      go_wp2
      refine bodyPost_ret (v := .tuple #[.slice none 0 0, .int .i64 1]) (by simp [results, Tryz.results38, go_sem]) rfl HE.out
  have l1 : decide ((12 : Int) < (p.length : Int)) = false := by simp; omega
  have l1' : ¬ (12 : Int) < (p.length : Int) := by omega
  have l2 : decide ((12 : Int) < (q.length : Int)) = false := by simp; omega
  have l2' : ¬ (12 : Int) < (q.length : Int) := by omega
  by_cases hop : ¬ (1 ≤ op ∧ op ≤ 3)
  · have HE : Hid (MXIntsErr w F x b s (findL s op p q) (findErr op p q) (.returned (.tuple #[.slice none 0 0, .int .i64 7])) w) := by
      have e : findErr op p q = 7 := by unfold findErr; rw [if_neg hlong, if_neg hop]
      have e2 : findL s op p q = [] := by unfold findL; rw [if_neg (by rw [e]; decide)]
      rw [e, e2]
      exact ⟨_, rfl, own_nil _ _ _ _, h.ix, Fr.refl _ _, fun _ => rfl⟩
    have hd : (decide (op < 1) = true ∧ op < 1) ∨ (decide (op < 1) = false ∧ ¬ op < 1 ∧ decide (3 < op) = true ∧ 3 < op) := by
      by_cases h1 : op < 1
      · left; exact ⟨by simpa using h1, h1⟩
      · right; exact ⟨by simpa using h1, h1, by simp; omega, by omega⟩
    clear h hf hlong hop
    rcases hd with ⟨e1, e2⟩ | ⟨e1, e2, e3, e4⟩
    all_goals
      go_enter Tryz.func38, Tryz.ntmps38
      go_wp2
      refine bodyPost_ret (v := .tuple #[.slice none 0 0, .int .i64 7]) (by simp [results, Tryz.results38, go_sem]) rfl HE.out
  have o1 : decide (op < 1) = false := by simp; omega
  have o1' : ¬ op < 1 := by omega
  have o2 : decide (3 < op) = false := by simp; omega
  have o2' : ¬ 3 < op := by omega
  have hop3 : op = 1 ∨ op = 2 ∨ op = 3 := by omega
  have HLE : Hid (findErr op p q = 0 ∧ findL s op p q = findTo s op p q 9) := by
    have e : findErr op p q = 0 := by unfold findErr; rw [if_neg hlong, if_pos (by omega)]
    refine ⟨e, ?_⟩
    unfold findL; rw [if_pos e]; rfl
  have HL : Hid (∀ k, FX F x k → k < w.heap.size) := h.ix.lt
  have HNE : Hid (¬ FX F x y) := h.ne
  obtain ⟨c0, hyl⟩ := h.cell
  have HD1 : Hid (Calls Tryz.prog 71 #[.pointer (some ⟨x, 0, none⟩), .string (str p)] w (MXInts w F x b s (s.holders p))) := mxDocs_any x b F s B w p h.ix hf
  have HD2 : Hid (∀ W, MX W F x b s → Calls Tryz.prog 71 #[.pointer (some ⟨x, 0, none⟩), .string (str q)] W (MXInts W F x b s (s.holders q))) := fun W hW => mxDocs_any x b F s B W q hW hf
  have HH : Hid (∀ u i, decide (i ∈ s.holders u) = hasOf s u i) := fun u i => by
    rw [Bool.eq_iff_iff, decide_eq_true_eq, holders_mem hf]
  have HHL : Hid (∀ u, (s.holders u).length ≤ 1000) := fun u => Nat.le_trans (List.length_filter_le _ idsAll) (by decide)
  clear h hf hlong hop
  go_enter Tryz.func38, Tryz.ntmps38
  go_wp2_with (go_at_call 71
               first
                 | (refine (HD2.out w1 hM1).mono ?_
                    rintro e w2 ⟨v11, rfl, ho11, hM2, f2, -⟩)
                 | (refine HD1.out.mono ?_
                    rintro e w1 ⟨v10, rfl, ho10, hM1, f1, -⟩
                    have c1 := f1.cell c0 HNE.out
                    have hy1 : y < w1.heap.size := Nat.lt_of_lt_of_le hyl f1.size))
  have HW2 : Hid (MX w2 F x b s ∧ Fr (FX F x) w w2 ∧ w.heap.size ≤ w2.heap.size ∧ Sl w2 v10 ((s.holders p).map (Value.int .i64)) ∧ Sl w2 v11 ((s.holders q).map (Value.int .i64))) :=
    ⟨hM2, f1.trans f2, Nat.le_trans f1.size f2.size, own_sl (own_fr2 ho10 f2 (fun k hk e => by have := own_ge ho10 hk; have := HL.out k e; omega)), own_sl ho11⟩
  have H0 : Hid (FindI w w2 F x b s op p q 0 (.slice none 0 0) w2) := ⟨Fr.refl _ _, by unfold findTo; simp only [List.take_zero, List.filter_nil, List.length_nil, List.map_nil]; exact own_nil _ _ _ _, fun _ => rfl⟩
  clear ho10 ho11 hM1 hM2 f1 f2 c1 hy1 HD1 HD2
  go_loopw [12, 13] (fun l i wr => ∃ j : Nat, j ≤ 9 ∧ i = .int .i64 ((j : Int) + 1) ∧ FindI w w2 F x b s op p q j l wr) (fun _ i _ => 10 - (intOf i).toNat)
  case atStart => exact ⟨0, by omega, rfl, H0.out⟩
  case round =>
    obtain ⟨j, hj, rfl, hI⟩ := hrel
    by_cases hlt : j < 9
    · have hle : decide ((j : Int) + 1 ≤ 9) = true := by simp; omega
      have hle2 : (j : Int) + 1 ≤ 9 := by omega
      have hsucc := findTo_succ s op p q j hlt
      have HI1 : Hid (Calls Tryz.prog 72 #[v10, .int .i64 ((j : Int) + 1)] wr fun e w' => e = .returned (.bool (hasOf s p ((j : Int) + 1))) ∧ w' = wr) := by
        have := in_any v10 (s.holders p) ((j : Int) + 1) wr (HW2.out.2.2.2.1.fr hI.fr) (HHL.out p)
        rw [HH.out] at this; exact this
      have HI2 : Hid (Calls Tryz.prog 72 #[v11, .int .i64 ((j : Int) + 1)] wr fun e w' => e = .returned (.bool (hasOf s q ((j : Int) + 1))) ∧ w' = wr) := by
        have := in_any v11 (s.holders q) ((j : Int) + 1) wr (HW2.out.2.2.2.2.fr hI.fr) (HHL.out q)
        rw [HH.out] at this; exact this
      have HFS : Hid (findSet s op p q ((j : Int) + 1) = (if op = 1 then (hasOf s p ((j : Int) + 1) && hasOf s q ((j : Int) + 1)) else if op = 2 then (hasOf s p ((j : Int) + 1) || hasOf s q ((j : Int) + 1)) else (hasOf s p ((j : Int) + 1) && !hasOf s q ((j : Int) + 1)))) := by
        unfold Hid findSet
        rcases hop3 with rfl | rfl | rfl <;> rfl
      have HP : Hid (FindI w w2 F x b s op p q j u12 wr) := hI
      have HSU : Hid (findTo s op p q (j + 1) = findTo s op p q j ++ (if findSet s op p q ((j : Int) + 1) then [(j : Int) + 1] else [])) := hsucc
      generalize hasOf s p ((j : Int) + 1) = ha at *
      generalize hasOf s q ((j : Int) + 1) = hb at *
      generalize findSet s op p q ((j : Int) + 1) = fs at *
      clear hI hsucc
      go_upto_region 13 with (go_at_call 72
                              first
                                | (refine HI1.out.mono ?_
                                   rintro e w5 ⟨rfl, hw5⟩
                                   have hw5 := hw5.symm
                                   subst hw5
                                   clear HI1)
                                | (refine HI2.out.mono ?_
                                   rintro e w6 ⟨rfl, hw6⟩
                                   have hw6 := hw6.symm
                                   subst hw6))
      have hfl := findTo_len s op p q j
      cases fs with
      | false =>
        rw [if_neg (by decide), List.append_nil] at HSU
        have HK : Hid (FindI w w2 F x b s op p q (j + 1) u12 wr) := ⟨HP.out.fr, by rw [HSU.out]; exact HP.out.own, by rw [HSU.out]; exact HP.out.nil⟩
        clear HI2 HP HSU
        rcases hop3 with rfl | rfl | rfl <;> cases ha <;> cases hb
        all_goals
          first
            | (exfalso; have e := HFS.out; simp at e; done)
            | (clear HFS
               go_wp2
               go_roundw
               case rel => exact ⟨j + 1, by omega, by go_num, HK.out⟩
               case measure => simp [intOf]; omega)
      | true =>
        rw [if_pos rfl] at HSU
        have hown := HP.out.own
        have hsz := HP.out.fr.size
        obtain ⟨m, hm⟩ : ∃ m, (findTo s op p q j).length = m := ⟨_, rfl⟩
        have HMM : Hid ((findTo s op p q j).length = m) := hm
        rw [hm] at hown hfl
        obtain ⟨i0, hi, hz0, hz1, hz2⟩ := info_parts info3
        clear HI2 hm
        rcases hop3 with rfl | rfl | rfl <;> cases ha <;> cases hb
        all_goals
          first
            | (exfalso; have e := HFS.out; simp at e; done)
            | (clear HFS
               go_wp2_with (at_builtin; refine wpList_append_own_at _ rfl _ _ 55 rfl w2.heap.size 3 i0 (.int .i64 0) 1 8 Tryz.underlying55 hi hz0 hz1 hz2 rfl (by decide) u12 m _ rfl (hown.alloc _) ⟨wr.heap.size, 0, none⟩ 1 1 [.int .i64 ((j : Int) + 1)] rfl rfl (cell_one_new _ _ _) (by intro u hu; simp only [List.mem_singleton] at hu; subst hu; rfl) (by unfold maxLen; omega) (by omega) (by simp; omega) ?_
                            intro v' w6 ho6 hg6 hnil6 hloc
                            have HK : Hid (FindI w w2 F x b s _ p q (j + 1) v' w6) := ⟨(HP.out.fr.alloc _).grown hg6 (fun k hk => .inl (own_ge hown hk).1), by rw [HSU.out, List.map_append, List.length_append, HMM.out]; exact ho6, fun e => by rw [HSU.out] at e; simp at e⟩
                            clear ho6 hg6 hloc)
               go_roundw
               case rel => exact ⟨j + 1, by omega, by go_num, HK.out⟩
               case measure => simp [intOf]; omega)
    · have hj9 : j = 9 := by omega
      have HE : Hid (MXIntsErr w F x b s (findL s op p q) (findErr op p q) (.returned (.tuple #[u12, .int .i64 0])) wr) := by
        rw [HLE.out.1, HLE.out.2]
        subst hj9
        exact ⟨u12, rfl, own_base hI.own HW2.out.2.2.1, HW2.out.1.frNo hI.fr, HW2.out.2.1.trans hI.fr.any, hI.nil⟩
      have hle : decide ((j : Int) + 1 ≤ 9) = false := by simp; omega
      have hle2 : ¬ (j : Int) + 1 ≤ 9 := by omega
      clear hI
      go_wp2
      refine bodyPost_ret (v := .tuple #[u12, .int .i64 0]) (by simp [results, Tryz.results38, go_sem]) rfl HE.out
end
end Go.Proofs.Qxb6500357aGreat
