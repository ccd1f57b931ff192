import Derived.Test.Qxb6500357aKeepsI
import Derived.Deep.CutRange
import Derived.Deep.RegionHeld3
namespace Go.Proofs.Qxb6500357a
open Go.RowKit Go.Tag
set_option linter.unusedVariables false
set_option linter.unusedSimpArgs false
set_option maxRecDepth 100000
attribute [local simp] str_size
attribute [local go_sem] str_size

def ansO2 (a : Ans) : Obj := .cells #[.int .i64 a.e, .int .i64 a.n, .int .i64 0, .string (str a.s)] 36
def belO (x : Nat) : Obj := .cells #[.pointer (some ⟨x, 0, none⟩)] 59
def chg2 (k : Int) : Bool := decide (k = 1 ∨ k = 2 ∨ k = 3 ∨ k = 10)
/-- The law's state: the tower holds s, the twin s2; the boxes of the two indexes. -/
def KMid (w0 w : World) (y x x2 bA tA : Nat) (s s2 : St) : Prop :=
  KI w0 w (fun k => (k = y ∨ k = bA) ∨ k = tA) y x x2 s s2 ∧ w.heap[bA]? = some (belO x) ∧ w.heap[tA]? = some (belO x2)
/-- Behind the step (and the twin's). -/
def KCut (w0 w : World) (y x x2 bA tA ab : Nat) (s s2 : St) (an : Ans) : Prop :=
  KI w0 w (fun k => ((k = y ∨ k = bA) ∨ k = tA) ∨ k = ab) y x x2 s s2 ∧ w.heap[bA]? = some (belO x) ∧ w.heap[tA]? = some (belO x2) ∧ w.heap[ab]? = some (ansO2 an)
section
variable {w0 w w' : World} {y x x2 bA tA ab : Nat} {s s2 : St} {an : Ans}
theorem KMid.do (h : KMid w0 w y x x2 bA tA s s2) {B : Int} (hf : Fine s B) (hB : B < 1000000000000000000) (o : Op) :
    Calls Try.prog 11 #[.pointer (some ⟨y, 0, none⟩), o.v] w fun e w' => e = .returned (doA s o).v ∧ KMid w0 w' y x x2 bA tA (doS s o) s2 ∧ Fr No w0 w' := by
  refine (h.1.do hf hB o).mono ?_
  rintro e w' ⟨rfl, h1, h2, h3⟩
  exact ⟨rfl, ⟨h1, (h2 bA (.inl (.inr rfl))).trans h.2.1, (h2 tA (.inr rfl)).trans h.2.2⟩, h3⟩
theorem KMid.cut (h : KMid w0 w y x x2 bA tA s s2) (an : Ans) : KCut w0 (w.alloc (ansO2 an)) y x x2 bA tA w.heap.size s s2 an :=
  ⟨h.1.alloc _, ((Fr.refl No w).alloc _).heap h.2.1 (fun h => h), ((Fr.refl No w).alloc _).heap h.2.2 (fun h => h), heap_alloc_new w _⟩
theorem KCut.pure (h : KCut w0 w y x x2 bA tA ab s s2 an) (f : Fr No w w') : KCut w0 w' y x x2 bA tA ab s s2 an :=
  ⟨h.1.pure f, f.heap h.2.1 (fun h => h), f.heap h.2.2.1 (fun h => h), f.heap h.2.2.2 (fun h => h)⟩
theorem KCut.mid (h : KCut w0 w y x x2 bA tA ab s s2 an) : KMid w0 w y x x2 bA tA s s2 :=
  ⟨h.1.weak (fun k hk => .inl hk) (.inl (.inl rfl)), h.2.1, h.2.2.1⟩
theorem KCut.twin (h : KCut w0 w y x x2 bA tA ab s s2 an) {B : Int} (hf : Fine s2 B) (hB : B < 1000000000000000000) (o : Op) (hk : o.k = 1 ∨ o.k = 2 ∨ o.k = 3 ∨ o.k = 10) :
    Calls Try.prog 24 #[belV x2, o.v] w fun e w' => e = .returned (doA s2 o).v ∧ KCut w0 w' y x x2 bA tA ab s (doS s2 o) an := by
  refine (h.1.twin hf hB o hk).mono ?_
  rintro e w' ⟨rfl, h1, h2, h3⟩
  exact ⟨rfl, h1, (h2 bA (.inl (.inl (.inr rfl)))).trans h.2.1, (h2 tA (.inl (.inr rfl))).trans h.2.2.1, (h2 ab (.inr rfl)).trans h.2.2.2⟩
end
theorem fineNew : Fine St.new 0 := ⟨fun i d h => by simp [St.new] at h, by decide, fun i => ⟨Int.le_refl _, Int.le_refl _⟩, fun i _ => rfl⟩

set_option maxHeartbeats 4000000 in
theorem keepsUpTo_any (v : Value) (n : Nat) (os : Nat → Op) (w : World) (hS : ScriptAt w v n os) : Calls Try.prog 7 #[v] w fun e w' => e = .returned (.int .i64 (-1)) ∧ Fr No w w' := by
  have HS : Hid (ScriptAt w v n os) := hS
  obtain ⟨ao, cap, rfl, hmax, hcl⟩ := hS
  have hn63 : (n : Int) ≤ 9223372036854775807 := by unfold maxLen at hmax; omega
  clear hmax
  have hequal := eqAns
  go_enter Try.func7, Try.ntmps7
  go_wp2_with first
    | (go_at_call 5; refine (examples_walk w).mono ?_; rintro e wE ⟨rfl, fE⟩)
    | (go_at_call 8; refine (towerNew_any wE).mono ?_; rintro e w1 ⟨z, y, x, b, F, rfl, hT, hF, hz, hy, f1⟩
       have c1 : w1.cell? ⟨z, 1, none⟩ = some (.pointer (some ⟨x, 0, none⟩)) := by rw [cell_of_heap hT.root]; rfl
       have c2 : w1.cell? ⟨z, 2, none⟩ = some (.pointer (some ⟨y, 0, none⟩)) := by rw [cell_of_heap hT.root]; rfl
       have zl := lt_of_heap hT.root
       have HT : Hid (TowerAt w1 F z y x b St.new ∧ (∀ k, F k → Since w w1 k) ∧ Fr No w w1) := ⟨hT, fun k hk => ⟨by have := (hF k hk).1; have := fE.size; omega, (hF k hk).2⟩, fE.trans f1⟩
       clear hT hF hz hy f1 fE)
    | (go_at_call 23; refine (ground_any _).mono ?_; rintro e w2 ⟨x2, F2, rfl, hG, hg, f2⟩
       have HK0 : Hid (KMid w (w2.alloc (belO x2)) y x x2 w1.heap.size w2.heap.size St.new St.new) := by
         have f1b : Fr No w1 (w1.alloc (belO x)) := (Fr.refl No w1).alloc _
         have hk := ki_new HT.out.1 HT.out.2.1 HT.out.2.2 f1b (by simp) hG hg f2
         have hbl : w2.heap[w1.heap.size]? = some (belO x) := f2.heap (heap_alloc_new w1 _) (fun h => h)
         have hbl2 := lt_of_heap hbl
         refine ⟨?_, ((Fr.refl No w2).alloc _).heap hbl (fun h => h), heap_alloc_new w2 _⟩
         exact hk.alloc _
       clear hG hg f2 HT
       unfold belV)
  obtain ⟨bA, hbA⟩ : ∃ bA, w1.heap.size = bA := ⟨_, rfl⟩
  obtain ⟨tA, htA⟩ : ∃ tA, w2.heap.size = tA := ⟨_, rfl⟩
  rw [hbA, htA] at HK0
  rw [hbA, htA]
  clear hbA htA
  go_loopw [7] (fun i wr => ∃ (j : Nat) (s : St), j ≤ n ∧ i = .int .i64 j ∧ Fine s j ∧ KMid w wr y x x2 bA tA s s) (fun i _ => n - (intOf i).toNat)
  case atStart => exact ⟨0, St.new, Nat.zero_le _, rfl, fineNew, HK0.out⟩
  case round =>
    obtain ⟨j, s, hj, rfl, hf, hI⟩ := hrel
    by_cases hgo : j < n ∧ j < 4398046511104
    · obtain ⟨hjn, hjm⟩ := hgo
      obtain ⟨bb, off, rfl, k0, k1, k2, k3, k4, k5⟩ := hcl j hjn
      have hd1 : decide ((j : Int) < (n : Int)) = true := by simp; omega
      have hd2 : (j : Int) < (n : Int) := by omega
      have hd3 : decide ((j : Int) < 4398046511104) = true := by simp; omega
      generalize os j = o at *
      obtain ⟨ok, oa, ob, oc, oS, oT⟩ := o
      simp only at k0 k1 k2 k3 k4 k5
      have HI : Hid (KMid w wr y x x2 bA tA s s ∧ Fine s j) := ⟨hI, hf⟩
      have HW : Hid (∀ W, Fr No w W → bb < W.heap.size) := fun W f => Nat.lt_of_lt_of_le (World.block_lt_of_cell? _ _ k0) f.size
      have hfr := hI.1.fr0
      have c0 := hfr.cell k0 (fun h => h)
      have c1 := hfr.cell k1 (fun h => h)
      have c2 := hfr.cell k2 (fun h => h)
      have c3 := hfr.cell k3 (fun h => h)
      have c4 := hfr.cell k4 (fun h => h)
      have c5 := hfr.cell k5 (fun h => h)
      clear hI hf hcl
      have HL : Hid (Calls Try.prog 15 #[.pointer (some ⟨y, 0, none⟩)] wr fun e w' => e = .returned (.int .i64 (s.ids.length : Int)) ∧ w' = wr) := HI.out.1.1.len HI.out.2
      have HD : Hid (Calls Try.prog 11 #[.pointer (some ⟨y, 0, none⟩), .agg #[.int .i64 ok, .int .i64 oa, .int .i64 ob, .int .i64 oc, .string (str oS), .string (str oT)]] wr fun e w' => e = .returned (.agg #[.int .i64 (doA s ⟨ok, oa, ob, oc, oS, oT⟩).e, .int .i64 (doA s ⟨ok, oa, ob, oc, oS, oT⟩).n, .int .i64 0, .string (str (doA s ⟨ok, oa, ob, oc, oS, oT⟩).s)]) ∧ KMid w w' y x x2 bA tA (doS s ⟨ok, oa, ob, oc, oS, oT⟩) s ∧ Fr No w w') := HI.out.1.do HI.out.2 (by omega) ⟨ok, oa, ob, oc, oS, oT⟩
      have HFS : Hid (Fine (doS s ⟨ok, oa, ob, oc, oS, oT⟩) (j + 1) ∧ ((j : Int) + 1 < 1000000000000000000)) := ⟨Fine.doS HI.out.2 _, by omega⟩
      have hpos := doA_n s ⟨ok, oa, ob, oc, oS, oT⟩
      have HKP : Hid (∀ W X s2, KI w W X y x x2 (doS s ⟨ok, oa, ob, oc, oS, oT⟩) s2 → Calls Try.prog 26 #[.agg #[.pointer (some ⟨x, 0, none⟩)], .pointer (some ⟨y, 0, none⟩), .agg #[.int .i64 ok, .int .i64 oa, .int .i64 ob, .int .i64 oc, .string (str oS), .string (str oT)], .agg #[.int .i64 (doA s ⟨ok, oa, ob, oc, oS, oT⟩).e, .int .i64 (doA s ⟨ok, oa, ob, oc, oS, oT⟩).n, .int .i64 0, .string (str (doA s ⟨ok, oa, ob, oc, oS, oT⟩).s)], .int .i64 (s.ids.length : Int)] W fun e w' => e = .returned (.bool true) ∧ Fr No W w') := fun W X s2 h => h.kept HI.out.2 HFS.out.1
      have HTW : Hid (∀ W ab an, KCut w W y x x2 bA tA ab (doS s ⟨ok, oa, ob, oc, oS, oT⟩) s an → (ok = 1 ∨ ok = 2 ∨ ok = 3 ∨ ok = 10) → Calls Try.prog 24 #[.agg #[.pointer (some ⟨x2, 0, none⟩)], .agg #[.int .i64 ok, .int .i64 oa, .int .i64 ob, .int .i64 oc, .string (str oS), .string (str oT)]] W fun e w' => e = .returned (.agg #[.int .i64 (doA s ⟨ok, oa, ob, oc, oS, oT⟩).e, .int .i64 (doA s ⟨ok, oa, ob, oc, oS, oT⟩).n, .int .i64 0, .string (str (doA s ⟨ok, oa, ob, oc, oS, oT⟩).s)]) ∧ KCut w w' y x x2 bA tA ab (doS s ⟨ok, oa, ob, oc, oS, oT⟩) (doS s ⟨ok, oa, ob, oc, oS, oT⟩) an) := fun W ab an h hk => h.twin HI.out.2 (by omega) ⟨ok, oa, ob, oc, oS, oT⟩ hk
      have HKE : Hid (¬ (ok = 1 ∨ ok = 2 ∨ ok = 3 ∨ ok = 10) → doS s ⟨ok, oa, ob, oc, oS, oT⟩ = s) := fun h => doS_keep s _ h
      generalize doA s ⟨ok, oa, ob, oc, oS, oT⟩ = an at *
      generalize doS s ⟨ok, oa, ob, oc, oS, oT⟩ = s' at *
      generalize s.ids.length = was at *
      have hpn : decide (an.n < 0) = false := by simp; omega
      have hpn2 : ¬ an.n < 0 := by omega
      clear hpos hfr
      go_upto_region 15 with (first
        | (go_at_call 15; refine HL.out.mono ?_; rintro e wq ⟨rfl, hwq⟩
           have hwq := hwq.symm
           subst hwq)
        | (go_at_call 11; refine HD.out.mono ?_; rintro e wA ⟨rfl, hKA, fA⟩
           have HKA : Hid (KCut w (wA.alloc (.cells #[.int .i64 an.e, .int .i64 an.n, .int .i64 0, .string (str an.s)] 36)) y x x2 bA tA wA.heap.size s' s an) := hKA.cut an
           have hba := HW.out wA fA
           have d0 := fA.cell k0 (fun h => h)
           have d1 := fA.cell k1 (fun h => h)
           have d2 := fA.cell k2 (fun h => h)
           have d3 := fA.cell k3 (fun h => h)
           have d4 := fA.cell k4 (fun h => h)
           have d5 := fA.cell k5 (fun h => h)
           clear hKA fA))
      go_cut [65] from 52 to 64 (fun v wx => v = .bool (chg2 ok) ∧ wx = wA.alloc (.cells #[.int .i64 an.e, .int .i64 an.n, .int .i64 0, .string (str an.s)] 36))
      case first =>
        by_cases e1 : ok = 1
        · have q1 : (ok == 1) = true := by simp [e1]
          have HCH : Hid (chg2 ok = true) := by rw [Hid]; simp [chg2, e1]
          clear e1
          go_wp2
          go_meet
          case rel => exact ⟨by rw [HCH.out], rfl⟩
        have q1 : (ok == 1) = false := by simp [e1]
        by_cases e2 : ok = 2
        · have q2 : (ok == 2) = true := by simp [e2]
          have HCH : Hid (chg2 ok = true) := by rw [Hid]; simp [chg2, e2]
          clear e1 e2
          go_wp2
          go_meet
          case rel => exact ⟨by rw [HCH.out], rfl⟩
        have q2 : (ok == 2) = false := by simp [e2]
        by_cases e3 : ok = 3
        · have q3 : (ok == 3) = true := by simp [e3]
          have HCH : Hid (chg2 ok = true) := by rw [Hid]; simp [chg2, e3]
          clear e1 e2 e3
          go_wp2
          go_meet
          case rel => exact ⟨by rw [HCH.out], rfl⟩
        have q3 : (ok == 3) = false := by simp [e3]
        by_cases e4 : ok = 10
        · have q10 : (ok == 10) = true := by simp [e4]
          have HCH : Hid (chg2 ok = true) := by rw [Hid]; simp [chg2, e4]
          clear e1 e2 e3 e4
          go_wp2
          go_meet
          case rel => exact ⟨by rw [HCH.out], rfl⟩
        have q10 : (ok == 10) = false := by simp [e4]
        have HCH : Hid (chg2 ok = false) := by rw [Hid]; simp [chg2, e1, e2, e3, e4]
        clear e1 e2 e3 e4
        go_wp2
        go_meet
        case rel => exact ⟨by rw [HCH.out], rfl⟩
      case rest =>
        obtain ⟨rfl, hwc⟩ := hcut
        have HKC : Hid (KCut w wc y x x2 bA tA wA.heap.size s' s an) := by rw [hwc]; exact HKA.out
        clear hwc HKA hba d0 d1 d2 d3 d4 d5 c0 c1 c2 c3 c4 c5 HD HL hd3 hpn hpn2
        obtain ⟨AB, hAB⟩ : ∃ AB, wA.heap.size = AB := ⟨_, rfl⟩
        rw [hAB] at HKC ⊢
        clear hAB
        go_upto_if 65 with fail
        go_cut [] from 65 to 74 (fun wx => KCut w wx y x x2 bA tA AB s' s' an)
        case first =>
          cases hch : chg2 ok with
          | false =>
            have HM : Hid (KCut w wc y x x2 bA tA AB s' s' an) := by
              have e' : s' = s := HKE.out (by simpa [chg2] using hch)
              have := HKC.out
              rw [e'] at this ⊢; exact this
            clear hch
            go_wp2
            go_meet
            case rel => exact HM.out
          | true =>
            have HCK : Hid (ok = 1 ∨ ok = 2 ∨ ok = 3 ∨ ok = 10) := by rw [Hid]; simpa [chg2] using hch
            clear hch
            have F0 := HKC.out.1.fr0
            have c0 := F0.cell k0 (fun h => h)
            have c1 := F0.cell k1 (fun h => h)
            have c2 := F0.cell k2 (fun h => h)
            have c3 := F0.cell k3 (fun h => h)
            have c4 := F0.cell k4 (fun h => h)
            have c5 := F0.cell k5 (fun h => h)
            clear F0
            have a0 := cell_of_heap HKC.out.2.2.2 0
            have a1 := cell_of_heap HKC.out.2.2.2 1
            have a2 := cell_of_heap HKC.out.2.2.2 2
            have a3 := cell_of_heap HKC.out.2.2.2 3
            simp only [List.getElem?_toArray, List.getElem?_cons_zero, List.getElem?_cons_succ] at a0 a1 a2 a3
            have p0 := cell_of_heap HKC.out.2.2.1 0
            simp only [belO, List.getElem?_toArray, List.getElem?_cons_zero, List.getElem?_cons_succ] at p0
            have hst := sameAns_true an.e an.n 0 an.s
            go_wp2
            go_region_held3 (fun w' => w'.cell? ⟨AB, 0, none⟩ = some (.int .i64 an.e) ∧ w'.cell? ⟨AB, 1, none⟩ = some (.int .i64 an.n) ∧ w'.cell? ⟨AB, 2, none⟩ = some (.int .i64 0) ∧ w'.cell? ⟨AB, 3, none⟩ = some (.string (str an.s)) ∧ w'.cell? ⟨tA, 0, none⟩ = some (.pointer (some ⟨x2, 0, none⟩)) ∧ w'.cell? ⟨bb, off + j * 6, none⟩ = some (.int .i64 ok) ∧ w'.cell? ⟨bb, off + j * 6 + 1, none⟩ = some (.int .i64 oa) ∧ w'.cell? ⟨bb, off + j * 6 + 2, none⟩ = some (.int .i64 ob) ∧ w'.cell? ⟨bb, off + j * 6 + 3, none⟩ = some (.int .i64 oc) ∧ w'.cell? ⟨bb, off + j * 6 + 4, none⟩ = some (.string (str oS)) ∧ w'.cell? ⟨bb, off + j * 6 + 5, none⟩ = some (.string (str oT))) (go_keep)
              (first
                | (go_at_call 24
                   refine (HTW.out _ AB an (HKC.out.pure ((Fr.refl No wc).drew)) HCK.out).mono ?_
                   rintro e w3 ⟨rfl, hK3⟩
                   have HK3 : Hid (KCut w w3 y x x2 bA tA AB s' s' an) := hK3
                   have F3 := hK3.1.fr0
                   have c0 := F3.cell k0 (fun h => h)
                   have c1 := F3.cell k1 (fun h => h)
                   have c2 := F3.cell k2 (fun h => h)
                   have c3 := F3.cell k3 (fun h => h)
                   have c4 := F3.cell k4 (fun h => h)
                   have c5 := F3.cell k5 (fun h => h)
                   have a0 := cell_of_heap hK3.2.2.2 0
                   have a1 := cell_of_heap hK3.2.2.2 1
                   have a2 := cell_of_heap hK3.2.2.2 2
                   have a3 := cell_of_heap hK3.2.2.2 3
                   simp only [List.getElem?_toArray, List.getElem?_cons_zero, List.getElem?_cons_succ] at a0 a1 a2 a3
                   have p0 := cell_of_heap hK3.2.2.1 0
                   simp only [belO, List.getElem?_toArray, List.getElem?_cons_zero, List.getElem?_cons_succ] at p0
                   clear hK3 F3))
            all_goals
              go_wp2
              go_meet
              case rel => exact HK3.out
        case rest =>
          have HK4 : Hid (KCut w wc y x x2 bA tA AB s' s' an) := hcut
          clear hcut HKC HTW HKE
          have p1 := cell_of_heap HK4.out.2.1 0
          have p2 := cell_of_heap HK4.out.2.2.1 0
          simp only [belO, List.getElem?_toArray, List.getElem?_cons_zero, List.getElem?_cons_succ] at p1 p2
          have HLo1 : Hid (Calls Try.prog 25 #[.agg #[.pointer (some ⟨x, 0, none⟩)]] wc (StrPost wc (ixShow s'))) := HK4.out.1.low1 HFS.out.1 HFS.out.2
          have HLo2 : Hid (∀ W, Fr No wc W → Calls Try.prog 25 #[.agg #[.pointer (some ⟨x2, 0, none⟩)]] W (StrPost W (ixShow s'))) := fun W f => (HK4.out.pure f).1.low2 HFS.out.1 HFS.out.2
          generalize ixShow s' = txt at *
          go_upto_region 21 with (go_at_call 25
                                  first
                                    | (refine (HLo2.out wf ff).mono ?_
                                       rintro e wg ⟨rfl, fg⟩
                                       have FG : Fr No wc wg := ff.trans fg
                                       clear fg)
                                    | (refine HLo1.out.mono ?_
                                       rintro e wf ⟨rfl, ff⟩
                                       have p1 := ff.cell p1 (fun h => h)
                                       have p2 := ff.cell p2 (fun h => h)))
          have HK5 : Hid (KCut w wg y x x2 bA tA AB s' s' an) := HK4.out.pure FG
          clear FG p1 p2 HLo1 HLo2
          have F5 := HK5.out.1.fr0
          have c0 := F5.cell k0 (fun h => h)
          have c1 := F5.cell k1 (fun h => h)
          have c2 := F5.cell k2 (fun h => h)
          have c3 := F5.cell k3 (fun h => h)
          have c4 := F5.cell k4 (fun h => h)
          have c5 := F5.cell k5 (fun h => h)
          clear F5
          have a0 := cell_of_heap HK5.out.2.2.2 0
          have a1 := cell_of_heap HK5.out.2.2.2 1
          have a2 := cell_of_heap HK5.out.2.2.2 2
          have a3 := cell_of_heap HK5.out.2.2.2 3
          simp only [List.getElem?_toArray, List.getElem?_cons_zero, List.getElem?_cons_succ] at a0 a1 a2 a3
          have p0 := cell_of_heap HK5.out.2.1 0
          simp only [belO, List.getElem?_toArray, List.getElem?_cons_zero, List.getElem?_cons_succ] at p0
          go_region_held3 (fun w' => w'.cell? ⟨AB, 0, none⟩ = some (.int .i64 an.e) ∧ w'.cell? ⟨AB, 1, none⟩ = some (.int .i64 an.n) ∧ w'.cell? ⟨AB, 2, none⟩ = some (.int .i64 0) ∧ w'.cell? ⟨AB, 3, none⟩ = some (.string (str an.s)) ∧ w'.cell? ⟨bA, 0, none⟩ = some (.pointer (some ⟨x, 0, none⟩)) ∧ w'.cell? ⟨bb, off + j * 6, none⟩ = some (.int .i64 ok) ∧ w'.cell? ⟨bb, off + j * 6 + 1, none⟩ = some (.int .i64 oa) ∧ w'.cell? ⟨bb, off + j * 6 + 2, none⟩ = some (.int .i64 ob) ∧ w'.cell? ⟨bb, off + j * 6 + 3, none⟩ = some (.int .i64 oc) ∧ w'.cell? ⟨bb, off + j * 6 + 4, none⟩ = some (.string (str oS)) ∧ w'.cell? ⟨bb, off + j * 6 + 5, none⟩ = some (.string (str oT))) (go_keep)
            (first
              | (go_at_call 26
                 refine (HKP.out _ _ s' (HK5.out.pure ((Fr.refl No wg).drew)).1).mono ?_
                 rintro e w6 ⟨rfl, f6⟩
                 have F6 : Fr No wg w6 := ((Fr.refl No wg).drew).trans f6
                 have HK6 : Hid (KMid w w6 y x x2 bA tA s' s') := (HK5.out.pure F6).mid
                 have c0 := F6.cell c0 (fun h => h)
                 have c1 := F6.cell c1 (fun h => h)
                 have c2 := F6.cell c2 (fun h => h)
                 have c3 := F6.cell c3 (fun h => h)
                 have c4 := F6.cell c4 (fun h => h)
                 have c5 := F6.cell c5 (fun h => h)
                 have a0 := F6.cell a0 (fun h => h)
                 have a1 := F6.cell a1 (fun h => h)
                 have a2 := F6.cell a2 (fun h => h)
                 have a3 := F6.cell a3 (fun h => h)
                 have p0 := F6.cell p0 (fun h => h)
                 clear F6 f6))
          all_goals
            go_wp2
            go_roundw
            case rel => exact ⟨j + 1, s', by omega, by go_num, by simpa using HFS.out.1, HK6.out⟩
            case measure => simp [intOf]; omega
    · have HE : Hid (Fr No w wr) := hI.1.fr0
      have hd : (decide ((j : Int) < (n : Int)) = false ∧ ¬ (j : Int) < (n : Int)) ∨ (decide ((j : Int) < (n : Int)) = true ∧ (j : Int) < (n : Int) ∧ decide ((j : Int) < 4398046511104) = false ∧ ¬ (j : Int) < 4398046511104) := by
        by_cases h : j < n
        · right; exact ⟨by simp; omega, by omega, by simp; omega, by omega⟩
        · left; exact ⟨by simp; omega, by omega⟩
      clear hI hf hgo hcl
      rcases hd with ⟨hd1, hd2⟩ | ⟨hd1, hd2, hd3, hd4⟩
      all_goals
        go_wp2
        go_ret
        exact ⟨rfl, HE.out⟩

theorem keeps_walk (v : Value) (n : Nat) (os : Nat → Op) (w : World) (hS : ScriptAt w v n os) : Calls Try.prog 4 #[v] w fun e w' => e = .returned (.bool true) ∧ Fr No w w' := by
  have HC : Hid (Calls Try.prog 7 #[v] w fun e w' => e = .returned (.int .i64 (-1)) ∧ Fr No w w') := keepsUpTo_any v n os w hS
  clear hS
  have hequal := eqAns
  go_enter Try.func4, Try.ntmps4
  go_wp2_with (go_at_call 7; refine HC.out.mono ?_; rintro e w1 ⟨rfl, f1⟩)
  go_ret
  exact ⟨rfl, f1⟩
end Go.Proofs.Qxb6500357a
