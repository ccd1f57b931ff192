import Derived.Test.Qxb6500357aFindsI
import Derived.Deep.CutRange
import Derived.Deep.RegionHeld3
namespace Go.Proofs.Qxb6500357a
open Go.RowKit Go.Tag
set_option linter.unusedVariables false
set_option linter.unusedSimpArgs false
set_option maxRecDepth 100000
attribute [local simp] str_size
attribute [local go_sem] str_size

theorem fi_new {w w1 w2 : World} {z y x b : Nat} {F : Nat → Prop} {gb t0 g0 x0 p0 : Nat} (hT : TowerAt w1 F z y x b St.new) (hF : ∀ k, F k → Since w w1 k) (hz : w.heap.size ≤ z) (hy : w.heap.size ≤ y) (f1 : Fr No w w1)
    (hG : GhostAt w2 gb t0 g0 x0 p0 St.new) (hg : ∀ k, gOne gb t0 g0 x0 p0 k → w1.heap.size ≤ k) (f2 : Fr No w1 w2) : FI w w2 (fun k => k = z ∨ k = y) z y x b gb t0 g0 x0 p0 St.new St.new := by
  have h1 := f1.size
  have h2 := f2.size
  have zl := lt_of_heap hT.root
  have yl := lt_of_heap hT.q.1
  refine ⟨F, ⟨f2.heap hT.q.1 (fun h => h), hT.q.2.frNo f2⟩, f2.heap hT.root (fun h => h), hG, fun k hk => ⟨by have := (hF k hk).2; omega, (hF k hk).1, fun e => by have := (hF k hk).2; have := hg k e; omega⟩, fun k hk => by have := hg k hk; omega, ?_, ⟨.inr rfl, .inl rfl⟩, f1.trans f2⟩
  rintro k (rfl | rfl)
  · exact ⟨hT.ne.1, fun e => by have := hg _ e; omega, by omega⟩
  · exact ⟨hT.ne.2, fun e => by have := hg _ e; omega, by omega⟩
theorem fi_re {w0 w : World} {z y x b gb t0 g0 x0 p0 ob ab : Nat} {s sg : St} (h : FI w0 w (fun k => ((k = z ∨ k = y) ∨ k = ob) ∨ k = ab) z y x b gb t0 g0 x0 p0 s sg) : FI w0 w (fun k => (k = z ∨ k = y) ∨ k = ob ∨ k = ab) z y x b gb t0 g0 x0 p0 s sg := by
  refine h.weak (fun k hk => ?_) (.inl (.inr rfl)) (.inl (.inl rfl))
  rcases hk with h | h | h
  · exact .inl (.inl h)
  · exact .inl (.inr h)
  · exact .inr h
theorem fine_new : Fine St.new 0 := ⟨fun i d h => by simp [St.new] at h, by decide, fun i => ⟨Int.le_refl _, Int.le_refl _⟩, fun i _ => rfl⟩

def opO (o : Op) : Obj := .cells #[.int .i64 o.k, .int .i64 o.a, .int .i64 o.b, .int .i64 o.c, .string (str o.s), .string (str o.t)] 39
def ansO (a : Ans) : Obj := .cells #[.int .i64 a.e, .int .i64 a.n, .int .i64 0, .string (str a.s)] 36
/-- Behind the step: the answer lies at ab, the step's own copy at ob. -/
def Cut1 (w0 : World) (z y x b gb t0 g0 x0 p0 ob : Nat) (s s' : St) (o : Op) (a : Ans) (v : Value) (wx : World) : Prop :=
  ∃ ab, v = .pointer (some ⟨ab, 0, none⟩) ∧ wx.heap[ab]? = some (ansO a) ∧ wx.heap[ob]? = some (opO o) ∧ FI w0 wx (fun k => (k = z ∨ k = y) ∨ k = ob ∨ k = ab) z y x b gb t0 g0 x0 p0 s' s

theorem fr_ans (w1 : World) (ab : Nat) (v0 v1 v2 v3 : Value) : Fr (fun k => k = ab) w1 ((((w1.setCell ⟨ab, 0, none⟩ v0).setCell ⟨ab, 1, none⟩ v1).setCell ⟨ab, 2, none⟩ v2).setCell ⟨ab, 3, none⟩ v3) :=
  ((((Fr.refl (fun k => k = ab) w1).setCell (p := ⟨ab, 0, none⟩) (.inr rfl) _).setCell (p := ⟨ab, 1, none⟩) (.inr rfl) _).setCell (p := ⟨ab, 2, none⟩) (.inr rfl) _).setCell (p := ⟨ab, 3, none⟩) (.inr rfl) _
theorem ans_set {w1 : World} {ab : Nat} {c0 c1 c2 c3 : Value} (h : w1.heap[ab]? = some (.cells #[c0, c1, c2, c3] 36)) (an : Ans) : ((((w1.setCell ⟨ab, 0, none⟩ (.int .i64 an.e)).setCell ⟨ab, 1, none⟩ (.int .i64 an.n)).setCell ⟨ab, 2, none⟩ (.int .i64 0)).setCell ⟨ab, 3, none⟩ (.string (str an.s))).heap[ab]? = some (ansO an) := by
  have h1 := Go.Tag.heap_setCell_same h 0 (.int .i64 an.e)
  have h2 := Go.Tag.heap_setCell_same h1 1 (.int .i64 an.n)
  have h3 := Go.Tag.heap_setCell_same h2 2 (.int .i64 0)
  have h4 := Go.Tag.heap_setCell_same h3 3 (.string (str an.s))
  rw [h4]; rfl

def chg (k : Int) : Bool := decide (k = 1 ∨ k = 2 ∨ k = 3 ∨ k = 10)
/-- Behind the ghost's turn. -/
def Cut2 (w0 : World) (X : Nat → Prop) (z y x b gb t0 g0 x0 p0 ob : Nat) (s : St) (o : Op) (wx : World) : Prop :=
  wx.heap[ob]? = some (opO o) ∧ FI w0 wx X z y x b gb t0 g0 x0 p0 s s

set_option maxHeartbeats 2000000 in
theorem findsUpTo_any (v : Value) (n : Nat) (os : Nat → Op) (w : World) (hS : ScriptAt w v n os) : Calls Try.prog 6 #[v] w fun e w' => e = .returned (.int .i64 (-1)) ∧ Fr No w w' := by
  have HS : Hid (ScriptAt w v n os) := hS
  obtain ⟨ao, cap, rfl, hmax, hcl⟩ := hS
  have hn63 : (n : Int) ≤ 9223372036854775807 := by unfold maxLen at hmax; omega
  clear hmax
  have hequal := eqAns
  go_enter Try.func6, Try.ntmps6
  go_wp2_with first
    | (go_at_call 8; refine (towerNew_any _).mono ?_; rintro e w1 ⟨z, y, x, b, F, rfl, hT, hF, hz, hy, f1⟩)
    | (go_at_call 12; refine (newGhost_any w1).mono ?_; rintro e w2 ⟨gb, t0, g0, x0, p0, rfl, hG, hg, f2⟩
       have H0 : Hid (FI w w2 (fun k => k = z ∨ k = y) z y x b gb t0 g0 x0 p0 St.new St.new) := fi_new hT hF hz hy f1 hG hg f2
       clear hT hF hz hy f1 hG hg f2)
  go_loopw [5] (fun i wr => ∃ (j : Nat) (s : St), j ≤ n ∧ i = .int .i64 j ∧ Fine s j ∧ FI w wr (fun k => k = z ∨ k = y) z y x b gb t0 g0 x0 p0 s s) (fun i _ => n - (intOf i).toNat)
  case atStart => exact ⟨0, St.new, Nat.zero_le _, rfl, fine_new, H0.out⟩
  case round =>
    obtain ⟨j, s, hj, rfl, hf, hI⟩ := hrel
    by_cases hgo : j < n ∧ j < 4398046511104
    · obtain ⟨hjn, hjm⟩ := hgo
      obtain ⟨bb, off, rfl, k0, k1, k2, k3, k4, k5⟩ := hcl j hjn
      have hfr := hI.fr0
      have k0 := frNo_cell hfr k0
      have k1 := frNo_cell hfr k1
      have k2 := frNo_cell hfr k2
      have k3 := frNo_cell hfr k3
      have k4 := frNo_cell hfr k4
      have k5 := frNo_cell hfr k5
      have hd1 : decide ((j : Int) < (n : Int)) = true := by simp; omega
      have hd2 : (j : Int) < (n : Int) := by omega
      have hd3 : decide ((j : Int) < 4398046511104) = true := by simp; omega
      have HI : Hid (FI w wr (fun k => k = z ∨ k = y) z y x b gb t0 g0 x0 p0 s s ∧ Fine s j) := ⟨hI, hf⟩
      generalize os j = o at *
      obtain ⟨cz, cn, hzw, hgw⟩ := hI.cells
      clear hI hf hcl hfr
      obtain ⟨ok, oa, ob, oc, oS, oT⟩ := o
      simp only at k0 k1 k2 k3 k4 k5
      have HD : Hid (∀ W X, FI w W X z y x b gb t0 g0 x0 p0 s s → Calls Try.prog 11 #[.pointer (some ⟨y, 0, none⟩), .agg #[.int .i64 ok, .int .i64 oa, .int .i64 ob, .int .i64 oc, .string (str oS), .string (str oT)]] W fun e w' => e = .returned (.agg #[.int .i64 (doA s ⟨ok, oa, ob, oc, oS, oT⟩).e, .int .i64 (doA s ⟨ok, oa, ob, oc, oS, oT⟩).n, .int .i64 0, .string (str (doA s ⟨ok, oa, ob, oc, oS, oT⟩).s)]) ∧ FI w w' X z y x b gb t0 g0 x0 p0 (doS s ⟨ok, oa, ob, oc, oS, oT⟩) s ∧ (∀ k, X k → w'.heap[k]? = W.heap[k]?) ∧ Fr No w w') := fun W X h => h.do HI.out.2 (by omega) ⟨ok, oa, ob, oc, oS, oT⟩
      have HF1 : Hid (FI w (wr.alloc (.cells #[.int .i64 ok, .int .i64 oa, .int .i64 ob, .int .i64 oc, .string (str oS), .string (str oT)] 39)).drew (fun k => (k = z ∨ k = y) ∨ k = wr.heap.size) z y x b gb t0 g0 x0 p0 s s) := (HI.out.1.alloc _).drew
      have HF2 : Hid (∀ o, FI w ((wr.alloc (.cells #[.int .i64 ok, .int .i64 oa, .int .i64 ob, .int .i64 oc, .string (str oS), .string (str oT)] 39)).alloc o).drew (fun k => ((k = z ∨ k = y) ∨ k = wr.heap.size) ∨ k = wr.heap.size + 1) z y x b gb t0 g0 x0 p0 s s) := fun o => by
        have := ((HI.out.1.alloc (.cells #[.int .i64 ok, .int .i64 oa, .int .i64 ob, .int .i64 oc, .string (str oS), .string (str oT)] 39)).alloc o).drew
        simp only [World.size_alloc] at this
        exact this
      have HB1 : Hid ((wr.alloc (.cells #[.int .i64 ok, .int .i64 oa, .int .i64 ob, .int .i64 oc, .string (str oS), .string (str oT)] 39)).drew.heap[wr.heap.size]? = some (.cells #[.int .i64 ok, .int .i64 oa, .int .i64 ob, .int .i64 oc, .string (str oS), .string (str oT)] 39)) := heap_alloc_new wr _
      have HB2 : Hid (∀ o, ((wr.alloc (.cells #[.int .i64 ok, .int .i64 oa, .int .i64 ob, .int .i64 oc, .string (str oS), .string (str oT)] 39)).alloc o).drew.heap[wr.heap.size]? = some (.cells #[.int .i64 ok, .int .i64 oa, .int .i64 ob, .int .i64 oc, .string (str oS), .string (str oT)] 39) ∧ ((wr.alloc (.cells #[.int .i64 ok, .int .i64 oa, .int .i64 ob, .int .i64 oc, .string (str oS), .string (str oT)] 39)).alloc o).drew.heap[wr.heap.size + 1]? = some o) := fun o => by
        refine ⟨(Below.heap_alloc _ o _ (by simp)).trans (heap_alloc_new wr _), ?_⟩
        have := heap_alloc_new (wr.alloc (.cells #[.int .i64 ok, .int .i64 oa, .int .i64 ob, .int .i64 oc, .string (str oS), .string (str oT)] 39)) o
        simp only [World.size_alloc] at this
        exact this
      have hzne : z ≠ wr.heap.size := by omega
      have hzne2 : z ≠ wr.heap.size + 1 := by omega
      have hzne3 : wr.heap.size + 1 ≠ z := by omega
      have hfs := HI.out.1.fr0.size
      have hyl : y < wr.heap.size := by obtain ⟨F, h⟩ := HI.out.1; exact lt_of_heap h.q.1
      generalize ha : doA s ⟨ok, oa, ob, oc, oS, oT⟩ = an at *
      generalize hs' : doS s ⟨ok, oa, ob, oc, oS, oT⟩ = s' at *
      have HA : Hid (doA s ⟨ok, oa, ob, oc, oS, oT⟩ = an ∧ doS s ⟨ok, oa, ob, oc, oS, oT⟩ = s') := ⟨ha, hs'⟩
      clear ha hs'
      go_upto_region 7 with fail
      go_cut [7] from 29 to 34 (fun v wx => Cut1 w z y x b gb t0 g0 x0 p0 wr.heap.size s s' ⟨ok, oa, ob, oc, oS, oT⟩ an v wx)
      case first =>
        go_region_held3 (fun w' => w'.cell? ⟨z, 2, none⟩ = some (.pointer (some ⟨y, 0, none⟩)) ∧ w'.cell? ⟨wr.heap.size, 0, none⟩ = some (.int .i64 ok) ∧ w'.cell? ⟨wr.heap.size, 1, none⟩ = some (.int .i64 oa) ∧ w'.cell? ⟨wr.heap.size, 2, none⟩ = some (.int .i64 ob) ∧ w'.cell? ⟨wr.heap.size, 3, none⟩ = some (.int .i64 oc) ∧ w'.cell? ⟨wr.heap.size, 4, none⟩ = some (.string (str oS)) ∧ w'.cell? ⟨wr.heap.size, 5, none⟩ = some (.string (str oT))) (go_keep)
          (first
            | (go_at_call 11
               refine (HD.out _ _ (by first | with_reducible exact HF1.out | with_reducible exact HF2.out _)).mono ?_
               rintro e w1 ⟨rfl, hI1, hX1, hf1⟩
               have hzc := hI1.cells.1
               have hbO : w1.heap[wr.heap.size]? = some (.cells #[.int .i64 ok, .int .i64 oa, .int .i64 ob, .int .i64 oc, .string (str oS), .string (str oT)] 39) := (hX1 wr.heap.size (by simp)).trans (by first | with_reducible exact HB1.out | with_reducible exact (HB2.out _).1)
               have o0 := cell_of_heap hbO 0
               have o1 := cell_of_heap hbO 1
               have o2 := cell_of_heap hbO 2
               have o3 := cell_of_heap hbO 3
               have o4 := cell_of_heap hbO 4
               have o5 := cell_of_heap hbO 5
               simp only [List.getElem?_toArray, List.getElem?_cons_zero, List.getElem?_cons_succ] at o0 o1 o2 o3 o4 o5
               first
                 | (have hbA : w1.heap[wr.heap.size + 1]? = some (.cells #[.int .i64 0, .int .i64 0, .int .i64 0, .string (str [])] 36) := (hX1 (wr.heap.size + 1) (.inr rfl)).trans (HB2.out _).2
                    have q0 := cell_of_heap hbA 0
                    have q1 := cell_of_heap hbA 1
                    have q2 := cell_of_heap hbA 2
                    have q3 := cell_of_heap hbA 3
                    simp only [List.getElem?_toArray, List.getElem?_cons_zero, List.getElem?_cons_succ] at q0 q1 q2 q3
                    have fz := frozen_of_heap hbA
                    have HC : Hid (Cut1 w z y x b gb t0 g0 x0 p0 wr.heap.size s s' ⟨ok, oa, ob, oc, oS, oT⟩ an (.pointer (some ⟨wr.heap.size + 1, 0, none⟩)) ((((w1.setCell ⟨wr.heap.size + 1, 0, none⟩ (.int .i64 an.e)).setCell ⟨wr.heap.size + 1, 1, none⟩ (.int .i64 an.n)).setCell ⟨wr.heap.size + 1, 2, none⟩ (.int .i64 0)).setCell ⟨wr.heap.size + 1, 3, none⟩ (.string (str an.s)))) :=
                      ⟨wr.heap.size + 1, rfl, ans_set hbA an, (fr_ans w1 _ _ _ _ _).heap hbO (by omega), fi_re (hI1.own (.inr rfl) (by omega) (by omega) (by have := hfs; omega) (fr_ans w1 _ _ _ _ _))⟩
                    clear hbA)
                 | (have HC : Hid (Cut1 w z y x b gb t0 g0 x0 p0 wr.heap.size s s' ⟨ok, oa, ob, oc, oS, oT⟩ an (.pointer (some ⟨w1.heap.size, 0, none⟩)) (w1.alloc (ansO an))) :=
                      ⟨w1.heap.size, rfl, heap_alloc_new w1 _, ((Fr.refl No w1).alloc _).heap hbO (fun h => h), fi_re (hI1.alloc _)⟩)
               clear hI1 hX1 hf1 hbO))
        all_goals
          go_wp2
          go_meet
          case rel => exact HC.out
      case rest =>
        obtain ⟨ab, rfl, hab, hob, hI1⟩ := hcut
        clear k0 k1 k2 k3 k4 k5 cz cn hzw hgw hzne hzne2 hzne3 HD HF1 HF2 HB1 HB2 hfs hyl hd1 hd2 hd3
        obtain ⟨OB, hOB⟩ : ∃ OB, wr.heap.size = OB := ⟨_, rfl⟩
        rw [hOB] at hob hI1 ⊢
        clear hOB
        have o0 := cell_of_heap hob 0
        have o1 := cell_of_heap hob 1
        have o2 := cell_of_heap hob 2
        have o3 := cell_of_heap hob 3
        have o4 := cell_of_heap hob 4
        have o5 := cell_of_heap hob 5
        simp only [List.getElem?_toArray, List.getElem?_cons_zero, List.getElem?_cons_succ] at o0 o1 o2 o3 o4 o5
        have HI1 : Hid (FI w wc (fun k => (k = z ∨ k = y) ∨ k = OB ∨ k = ab) z y x b gb t0 g0 x0 p0 s' s ∧ wc.heap[ab]? = some (ansO an) ∧ wc.heap[OB]? = some (opO ⟨ok, oa, ob, oc, oS, oT⟩)) := ⟨hI1, hab, hob⟩
        clear hI1 hab hob
        go_upto_region 8 with fail
        go_cut [52] from 35 to 51 (fun v wx => v = .bool (chg ok) ∧ wx = wc)
        case first =>
          by_cases e1 : ok = 1
          · have b1 : (ok == 1) = true := by simp [e1]
            have HCH : Hid (chg ok = true) := by rw [Hid]; simp [chg, e1]
            clear e1
            go_wp2
            go_meet
            case rel => exact ⟨by rw [HCH.out], rfl⟩
          have b1 : (ok == 1) = false := by simp [e1]
          by_cases e2 : ok = 2
          · have b2 : (ok == 2) = true := by simp [e2]
            have HCH : Hid (chg ok = true) := by rw [Hid]; simp [chg, e2]
            clear e1 e2
            go_wp2
            go_meet
            case rel => exact ⟨by rw [HCH.out], rfl⟩
          have b2 : (ok == 2) = false := by simp [e2]
          by_cases e3 : ok = 3
          · have b3 : (ok == 3) = true := by simp [e3]
            have HCH : Hid (chg ok = true) := by rw [Hid]; simp [chg, e3]
            clear e1 e2 e3
            go_wp2
            go_meet
            case rel => exact ⟨by rw [HCH.out], rfl⟩
          have b3 : (ok == 3) = false := by simp [e3]
          by_cases e4 : ok = 10
          · have b4 : (ok == 10) = true := by simp [e4]
            have HCH : Hid (chg ok = true) := by rw [Hid]; simp [chg, e4]
            clear e1 e2 e3 e4
            go_wp2
            go_meet
            case rel => exact ⟨by rw [HCH.out], rfl⟩
          have b4 : (ok == 10) = false := by simp [e4]
          have HCH : Hid (chg ok = false) := by rw [Hid]; simp [chg, e1, e2, e3, e4]
          clear e1 e2 e3 e4
          go_wp2
          go_meet
          case rel => exact ⟨by rw [HCH.out], rfl⟩
        case rest =>
          obtain ⟨rfl, hwc⟩ := hcut
          have hwc := hwc.symm
          subst hwc
          have HFS : Hid (Fine s' (j + 1) ∧ ((j : Int) + 1 < 1000000000000000000)) := ⟨by rw [← HA.out.2]; exact Fine.doS HI.out.2 _, by omega⟩
          go_upto_if 52 with fail
          go_cut [] from 52 to 64 (fun wx => Cut2 w (fun k => (k = z ∨ k = y) ∨ k = OB ∨ k = ab) z y x b gb t0 g0 x0 p0 OB s' ⟨ok, oa, ob, oc, oS, oT⟩ wx)
          case first =>
            cases hch : chg ok with
            | false =>
              have HM : Hid (Cut2 w (fun k => (k = z ∨ k = y) ∨ k = OB ∨ k = ab) z y x b gb t0 g0 x0 p0 OB s' ⟨ok, oa, ob, oc, oS, oT⟩ wc) := by
                have e : doS s ⟨ok, oa, ob, oc, oS, oT⟩ = s := doS_keep s _ (by simpa [chg] using hch)
                have e' : s' = s := by rw [← HA.out.2, e]
                refine ⟨HI1.out.2.2, ?_⟩
                have := HI1.out.1
                rw [e'] at this ⊢; exact this
              clear hch
              go_wp2
              go_meet
              case rel => exact HM.out
            | true =>
              have HCK : Hid (ok = 1 ∨ ok = 2 ∨ ok = 3 ∨ ok = 10) := by rw [Hid]; simpa [chg] using hch
              clear hch
              have a0 := cell_of_heap HI1.out.2.1 0
              have a1 := cell_of_heap HI1.out.2.1 1
              have a2 := cell_of_heap HI1.out.2.1 2
              have a3 := cell_of_heap HI1.out.2.1 3
              simp only [List.getElem?_toArray, List.getElem?_cons_zero, List.getElem?_cons_succ] at a0 a1 a2 a3
              have hst := sameAns_true an.e an.n 0 an.s
              have HO : Hid (∀ W, Fr No wc W → Calls Try.prog 13 #[.pointer (some ⟨gb, 0, none⟩), .agg #[.int .i64 ok, .int .i64 oa, .int .i64 ob, .int .i64 oc, .string (str oS), .string (str oT)]] W fun e w' => e = .returned (.agg #[.int .i64 an.e, .int .i64 an.n, .int .i64 0, .string (str an.s)]) ∧ Fr No W w') := fun W f => by
                have := (HI1.out.1.pure f).owes HI.out.2 ⟨ok, oa, ob, oc, oS, oT⟩ HCK.out
                rw [HA.out.1] at this; exact this
              go_wp2
              go_region_held3 (fun w' => w'.cell? ⟨ab, 0, none⟩ = some (.int .i64 an.e) ∧ w'.cell? ⟨ab, 1, none⟩ = some (.int .i64 an.n) ∧ w'.cell? ⟨ab, 2, none⟩ = some (.int .i64 0) ∧ w'.cell? ⟨ab, 3, none⟩ = some (.string (str an.s)) ∧ w'.cell? ⟨OB, 0, none⟩ = some (.int .i64 ok) ∧ w'.cell? ⟨OB, 1, none⟩ = some (.int .i64 oa) ∧ w'.cell? ⟨OB, 2, none⟩ = some (.int .i64 ob) ∧ w'.cell? ⟨OB, 3, none⟩ = some (.int .i64 oc) ∧ w'.cell? ⟨OB, 4, none⟩ = some (.string (str oS)) ∧ w'.cell? ⟨OB, 5, none⟩ = some (.string (str oT))) (go_keep)
                (first
                  | (go_at_call 13
                     refine (HO.out _ ((Fr.refl No wc).drew)).mono ?_
                     rintro e w1 ⟨rfl, f1⟩
                     have F1 : Hid (Fr No wc w1) := (Fr.refl No wc).drew.trans f1
                     have a0 := F1.out.cell a0 (fun h => h)
                     have a1 := F1.out.cell a1 (fun h => h)
                     have a2 := F1.out.cell a2 (fun h => h)
                     have a3 := F1.out.cell a3 (fun h => h)
                     have o0 := F1.out.cell o0 (fun h => h)
                     have o1 := F1.out.cell o1 (fun h => h)
                     have o2 := F1.out.cell o2 (fun h => h)
                     have o3 := F1.out.cell o3 (fun h => h)
                     have o4 := F1.out.cell o4 (fun h => h)
                     have o5 := F1.out.cell o5 (fun h => h)
                     clear f1))
              all_goals
                by_cases he : an.e = 0
                · have heb : (an.e == 0) = true := by simp [he]
                  have HT : Hid (Calls Try.prog 14 #[.pointer (some ⟨gb, 0, none⟩), .agg #[.int .i64 ok, .int .i64 oa, .int .i64 ob, .int .i64 oc, .string (str oS), .string (str oT)]] w1 fun e w' => e = .returned (.tuple #[]) ∧ Cut2 w (fun k => (k = z ∨ k = y) ∨ k = OB ∨ k = ab) z y x b gb t0 g0 x0 p0 OB s' ⟨ok, oa, ob, oc, oS, oT⟩ w') := by
                    have := (HI1.out.1.pure F1.out).turn HI.out.2 (by omega) ⟨ok, oa, ob, oc, oS, oT⟩ HCK.out (by rw [HA.out.1]; exact he)
                    rw [HA.out.2] at this
                    exact this.mono fun e w' ⟨h1, h2, h3, h4⟩ => ⟨h1, (h3 OB (.inr (.inl rfl))).trans (F1.out.heap HI1.out.2.2 (fun h => h)), h2⟩
                  clear he
                  go_wp2_with (go_at_call 14; refine HT.out.mono ?_; rintro e w3 ⟨rfl, hM⟩
                               have HM : Hid (Cut2 w (fun k => (k = z ∨ k = y) ∨ k = OB ∨ k = ab) z y x b gb t0 g0 x0 p0 OB s' ⟨ok, oa, ob, oc, oS, oT⟩ w3) := hM
                               clear hM)
                  go_meet
                  case rel => exact HM.out
                · have heb : (an.e == 0) = false := by simp [he]
                  have HM : Hid (Cut2 w (fun k => (k = z ∨ k = y) ∨ k = OB ∨ k = ab) z y x b gb t0 g0 x0 p0 OB s' ⟨ok, oa, ob, oc, oS, oT⟩ w1) := by
                    have e : doS s ⟨ok, oa, ob, oc, oS, oT⟩ = s := doS_bad HI.out.2 _ (by rw [HA.out.1]; exact he)
                    have e' : s' = s := by rw [← HA.out.2, e]
                    refine ⟨F1.out.heap HI1.out.2.2 (fun h => h), ?_⟩
                    have := HI1.out.1.pure F1.out
                    rw [e'] at this ⊢; exact this
                  clear he
                  go_wp2
                  go_meet
                  case rel => exact HM.out
          case rest =>
            clear HI1 o0 o1 o2 o3 o4 o5
            obtain ⟨hob, hI2⟩ := hcut
            have o4 := cell_of_heap hob 4
            have o5 := cell_of_heap hob 5
            simp only [List.getElem?_toArray, List.getElem?_cons_zero, List.getElem?_cons_succ] at o4 o5
            obtain ⟨cz, cn, hzw, hgw⟩ := hI2.cells
            have HP : Hid (∀ W, Fr No wc W → FI w W (fun k => (k = z ∨ k = y) ∨ k = OB ∨ k = ab) z y x b gb t0 g0 x0 p0 s' s') := fun W f => hI2.pure f
            have HL : Hid (∀ n, Calls Try.prog 15 #[.pointer (some ⟨y, 0, none⟩)] (wc.drewN n) fun e w' => e = .returned (.int .i64 (s'.ids.length : Int)) ∧ w' = wc.drewN n) := fun n => (HP.out _ ((Fr.refl No wc).drewN n)).len HFS.out.1
            have hTN : Hid ((∀ u ∈ topL s' 4, u.length ≤ 1000) ∧ (topL s' 4).length ≤ 1000) := ⟨topL_num s' 4 HFS.out.1, topL_len s' 4⟩
            clear hI2 hob
            go_wp2
            go_quiet (exact Calls.quiet_of_same (HL.out _))
            have hcz0 : (wc.drewN nq).cell? ⟨z, 2, none⟩ = some (.pointer (some ⟨y, 0, none⟩)) := cz
            go_upto_if 108 with (first
              | (go_at_call 16; refine ((HP.out _ ((Fr.refl No wc).drewN nq)).runs HFS.out.1).mono ?_; rintro e wa ⟨v8, rfl, hv8, fa⟩
                 have FA : Fr No wc wa := ((Fr.refl No wc).drewN nq).trans fa
                 have za := FA.cell cz (fun h => h)
                 have zla : z < wa.heap.size := Nat.lt_of_lt_of_le hzw FA.size
                 have HV : Hid (SlW wa v8 s'.words) := hv8
                 clear hv8 fa)
              | (go_at_call 9; refine ((HP.out wa FA).show HFS.out.1 HFS.out.2).mono ?_; rintro e wb ⟨rfl, fb⟩)
              | (go_at_call 17; refine ((HP.out wb (FA.trans fb)).whole HFS.out.1 HFS.out.2 (HV.out.fr fb)).mono ?_; rintro e wd ⟨rfl, fd⟩
                 have FD : Fr No wa wd := fb.trans fd
                 have zd := FD.cell za (fun h => h)
                 have zld : z < wd.heap.size := Nat.lt_of_lt_of_le zla FD.size)
              | (go_at_call 18; refine ((HP.out wd (FA.trans FD)).top HFS.out.1 4).mono ?_; rintro e we ⟨v10, rfl, ho10, fe, -⟩
                 have HV10 : Hid (Sl we v10 ((topL s' 4).map fun s => Value.string (str s))) := own_sl ho10
                 clear ho10)
              | (go_at_call 19; refine (strs_any v10 (topL s' 4) we HV10.out hTN.out.1 hTN.out.2).mono ?_; rintro e wf ⟨rfl, ff⟩)
              | (go_at_call 20; refine ((HP.out wf ((FA.trans FD).trans (fe.trans ff))).tops HFS.out.1 (HV.out.fr (FD.trans (fe.trans ff)))).mono ?_; rintro e wg ⟨rfl, fg⟩
                 have FG : Fr No wc wg := ((FA.trans FD).trans (fe.trans ff)).trans fg
                 have HVG : Hid (SlW wg v8 s'.words) := HV.out.fr ((FD.trans (fe.trans ff)).trans fg)
                 have p4 := FG.cell o4 (fun h => h)
                 have p5 := FG.cell o5 (fun h => h)
                 have pz := FG.cell cz (fun h => h)
                 have pzl : z < wg.heap.size := Nat.lt_of_lt_of_le hzw FG.size))
            go_cut [] from 105 to 117 (fun wx => Fr No wg wx)
            case first =>
              have HM : Hid (∀ W, Fr No wg W → oS.length ≤ 12 → Calls Try.prog 21 #[.pointer (some ⟨y, 0, none⟩), .pointer (some ⟨gb, 0, none⟩), .string (str oS)] W fun e w' => e = .returned (.bool true) ∧ Fr No W w') := fun W f hl => (HP.out W (FG.trans f)).meets HFS.out.1 oS hl
              by_cases hl : oS.length ≤ 12
              · have hd : decide ((oS.length : Int) ≤ 12) = true := by simp; omega
                have hd' : (oS.length : Int) ≤ 12 := by omega
                go_wp2
                go_region_held3 (fun w' => w'.cell? ⟨z, 2, none⟩ = some (.pointer (some ⟨y, 0, none⟩)) ∧ w'.cell? ⟨OB, 4, none⟩ = some (.string (str oS))) (go_keep)
                  (first
                    | (go_at_call 21
                       refine (HM.out _ ((Fr.refl No wg).drew) hl).mono ?_
                       rintro e wh ⟨rfl, fh⟩
                       have FH : Hid (Fr No wg wh) := (Fr.refl No wg).drew.trans fh
                       have rz := FH.out.cell pz (fun h => h)
                       have r4 := FH.out.cell p4 (fun h => h)
                       clear fh))
                all_goals
                  go_wp2
                  go_meet
                  case rel => exact FH.out
              · have hd : decide ((oS.length : Int) ≤ 12) = false := by simp; omega
                have hd' : ¬ (oS.length : Int) ≤ 12 := by omega
                go_wp2
                go_meet
                case rel => exact Fr.refl _ _
            case rest =>
              have hf2 := hcut
              have FJ := FG.trans hf2
              have sz := hf2.cell pz (fun h => h)
              have s5 := hf2.cell p5 (fun h => h)
              have szl : z < wc.heap.size := Nat.lt_of_lt_of_le pzl hf2.size
              have HVJ : Hid (SlW wc v8 s'.words) := HVG.out.fr hf2
              clear hcut hf2
              go_upto_if 122 with fail
              go_cut [] from 119 to 131 (fun wx => Fr No wc wx)
              case first =>
                have HM : Hid (∀ W, Fr No wc W → oT.length ≤ 12 → Calls Try.prog 21 #[.pointer (some ⟨y, 0, none⟩), .pointer (some ⟨gb, 0, none⟩), .string (str oT)] W fun e w' => e = .returned (.bool true) ∧ Fr No W w') := fun W f hl => (HP.out W (FJ.trans f)).meets HFS.out.1 oT hl
                by_cases hl : oT.length ≤ 12
                · have hd : decide ((oT.length : Int) ≤ 12) = true := by simp; omega
                  have hd' : (oT.length : Int) ≤ 12 := by omega
                  go_wp2
                  go_region_held3 (fun w' => w'.cell? ⟨z, 2, none⟩ = some (.pointer (some ⟨y, 0, none⟩)) ∧ w'.cell? ⟨OB, 5, none⟩ = some (.string (str oT))) (go_keep)
                    (first
                      | (go_at_call 21
                         refine (HM.out _ ((Fr.refl No wc).drew) hl).mono ?_
                         rintro e wh ⟨rfl, fh⟩
                         have FH : Hid (Fr No wc wh) := (Fr.refl No wc).drew.trans fh
                         have rz := FH.out.cell sz (fun h => h)
                         have r4 := FH.out.cell s5 (fun h => h)
                         clear fh))
                  all_goals
                    go_wp2
                    go_meet
                    case rel => exact FH.out
                · have hd : decide ((oT.length : Int) ≤ 12) = false := by simp; omega
                  have hd' : ¬ (oT.length : Int) ≤ 12 := by omega
                  go_wp2
                  go_meet
                  case rel => exact Fr.refl _ _
              case rest =>
                have HAl : Hid (Calls Try.prog 22 #[.pointer (some ⟨y, 0, none⟩), .pointer (some ⟨gb, 0, none⟩), v8] wc fun e w' => e = .returned (.bool true) ∧ FI w w' (fun k => k = z ∨ k = y) z y x b gb t0 g0 x0 p0 s' s') := by
                  have h1 := HP.out wc (FJ.trans hcut)
                  exact (h1.meetsAll HFS.out.1 (HVJ.out.fr hcut)).mono fun e w' ⟨e1, e2⟩ => ⟨e1, (h1.pure e2).weak (fun k hk => .inl hk) (.inr rfl) (.inl rfl)⟩
                have tz := hcut.cell sz (fun h => h)
                have tzl : z < wc.heap.size := Nat.lt_of_lt_of_le szl hcut.size
                clear hcut
                go_wp2_with (go_at_call 22; refine HAl.out.mono ?_; rintro e wk ⟨rfl, hK⟩
                             have HK : Hid (FI w wk (fun k => k = z ∨ k = y) z y x b gb t0 g0 x0 p0 s' s') := hK
                             clear hK)
                go_roundw
                case rel => exact ⟨j + 1, s', by omega, by go_num, by simpa using HFS.out.1, HK.out⟩
                case measure => simp [intOf]; omega
    · have HE : Hid (Fr No w wr) := hI.fr0
      have hd : (decide ((j : Int) < (n : Int)) = false ∧ ¬ (j : Int) < (n : Int)) ∨ (decide ((j : Int) < (n : Int)) = true ∧ (j : Int) < (n : Int) ∧ decide ((j : Int) < 4398046511104) = false ∧ ¬ (j : Int) < 4398046511104) := by
        by_cases h : j < n
        · right; exact ⟨by simp; omega, by omega, by simp; omega, by omega⟩
        · left; exact ⟨by simp; omega, by omega⟩
      clear hI hf hgo hcl
      rcases hd with ⟨hd1, hd2⟩ | ⟨hd1, hd2, hd3, hd4⟩
      all_goals
        go_wp2
        go_ret
        exact ⟨rfl, HE.out⟩

theorem finds_walk (v : Value) (n : Nat) (os : Nat → Op) (w : World) (hS : ScriptAt w v n os) : Calls Try.prog 3 #[v] w fun e w' => e = .returned (.bool true) ∧ Fr No w w' := by
  have HC : Hid (Calls Try.prog 6 #[v] w fun e w' => e = .returned (.int .i64 (-1)) ∧ Fr No w w') := findsUpTo_any v n os w hS
  clear hS
  have hequal := eqAns
  go_enter Try.func3, Try.ntmps3
  go_wp2_with (go_at_call 6; refine HC.out.mono ?_; rintro e w1 ⟨rfl, f1⟩)
  go_ret
  exact ⟨rfl, f1⟩
end Go.Proofs.Qxb6500357a
