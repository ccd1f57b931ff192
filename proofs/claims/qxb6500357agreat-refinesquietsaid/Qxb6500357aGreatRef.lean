/- The walk of both laws. -/
import Derived.Test.Qxb6500357aGreatRefI
import Derived.Deep.CutRange
namespace Go.Proofs.Qxb6500357aGreat
open Go.RowKit Go.Tag
set_option linter.unusedVariables false
set_option linter.unusedSimpArgs false
set_option maxRecDepth 100000
attribute [local simp] str_size
attribute [local go_sem] str_size
theorem fineNew : Fine St.new 0 := ⟨fun i d h => by simp [St.new] at h, by decide, fun i => ⟨Int.le_refl _, Int.le_refl _⟩, fun i _ => rfl⟩
def ansO2 (a : Ans) : Obj := .cells #[.int .i64 a.e, .int .i64 a.n, .int .i64 0, .string (str a.s)] 40
def opO2 (o : Op) : Obj := .cells #[.int .i64 o.k, .int .i64 o.a, .int .i64 o.b, .int .i64 o.c, .string (str o.s), .string (str o.t)] 37
theorem ans_at {w : World} {b : Nat} {a : Ans} (h : w.heap[b]? = some (ansO2 a)) : w.cell? ⟨b, 0, none⟩ = some (.int .i64 a.e) ∧ w.cell? ⟨b, 1, none⟩ = some (.int .i64 a.n) ∧ w.cell? ⟨b, 2, none⟩ = some (.int .i64 0) ∧ w.cell? ⟨b, 3, none⟩ = some (.string (str a.s)) ∧ b < w.heap.size := by
  refine ⟨?_, ?_, ?_, ?_, lt_of_heap h⟩ <;> (rw [cell_of_heap h]; rfl)
theorem op_at {w : World} {b : Nat} {o : Op} (h : w.heap[b]? = some (opO2 o)) : w.cell? ⟨b, 0, none⟩ = some (.int .i64 o.k) ∧ w.cell? ⟨b, 1, none⟩ = some (.int .i64 o.a) ∧ w.cell? ⟨b, 2, none⟩ = some (.int .i64 o.b) ∧ w.cell? ⟨b, 3, none⟩ = some (.int .i64 o.c) ∧ w.cell? ⟨b, 4, none⟩ = some (.string (str o.s)) ∧ w.cell? ⟨b, 5, none⟩ = some (.string (str o.t)) ∧ b < w.heap.size := by
  refine ⟨?_, ?_, ?_, ?_, ?_, ?_, lt_of_heap h⟩ <;> (rw [cell_of_heap h]; rfl)
theorem tow_at {st0 : Nat} {w : World} {z x y : Nat} (h : w.heap[z]? = some (towO st0 x y)) : w.cell? ⟨z, 0, none⟩ = some (.pointer (some ⟨st0, 0, none⟩)) ∧ w.cell? ⟨z, 1, none⟩ = some (.pointer (some ⟨x, 0, none⟩)) ∧ w.cell? ⟨z, 2, none⟩ = some (.pointer (some ⟨y, 0, none⟩)) ∧ z < w.heap.size := by
  refine ⟨?_, ?_, ?_, lt_of_heap h⟩ <;> (rw [cell_of_heap h]; rfl)
def WalkPost (w : World) (e : Ending) (w' : World) : Prop := ∃ m : Int, e = .returned (.tuple #[.int .i64 (-1), .int .i64 m]) ∧ Fr No w w'
set_option maxHeartbeats 8000000 in
theorem walk_any (v : Value) (quiet : Bool) (n : Nat) (os : Nat → Op) (w : World) (hS : ScriptAt w v n os) : Calls Tryz.prog 7 #[v, .bool quiet] w (WalkPost w) := by
  obtain ⟨ao, cap, rfl, hmax, hcl⟩ := hS
  have hn63 : (n : Int) ≤ 9223372036854775807 := by unfold maxLen at hmax; omega
  clear hmax
  have hequal := eqAns
  go_enter Tryz.func7, Tryz.ntmps7
  go_wp2_with first
    | (go_at_call 8; refine (towerNew_any w).mono ?_; rintro e w1 ⟨z, y, x, st0, F, rfl, hT, hF, hz, hy, f1⟩
       have c2 : w1.cell? ⟨z, 2, none⟩ = some (.pointer (some ⟨y, 0, none⟩)) := by rw [cell_of_heap hT.root]; rfl
       have zl := lt_of_heap hT.root
       have HT : Hid (TowerAt st0 w1 F z y x st0 St.new ∧ (∀ k, F k → Since w w1 k) ∧ Fr No w w1) := ⟨hT, hF, f1⟩
       clear hT hF hz hy f1)
    | (go_at_call 9; refine (mqNew_any w1).mono ?_; rintro e w2 ⟨ym, xm, bm, rfl, hM, h1, h2, h3, f2⟩
       have HR0 : Hid (RS st0 w w2 z y x ym xm bm St.new St.new []) := ⟨(ri_new HT.out.1 HT.out.2.1 HT.out.2.2 hM h1 h2 h3 f2).weak (fun k hk => hk.elim _root_.id (fun ⟨o, e⟩ => by cases e)) ⟨.inl (.inl rfl), .inl (.inr (.inl rfl)), .inl (.inr (.inr rfl))⟩, fun p hp => by cases hp⟩
       clear hM h1 h2 h3 f2 HT)
  go_loopw [9] (fun i wr => ∃ (j : Nat) (s : St), j ≤ n ∧ i = .int .i64 j ∧ Fine s j ∧ Pos s ∧ RS st0 w wr z y x ym xm bm s s []) (fun i _ => n - (intOf i).toNat)
  case atStart => exact ⟨0, St.new, Nat.zero_le _, rfl, fineNew, pos_new, HR0.out⟩
  case round =>
    obtain ⟨j, s, hj, rfl, hf, hp, hI⟩ := hrel
    by_cases hgo : j < n ∧ j < 4398046511104
    · obtain ⟨hjn, hjm⟩ := hgo
      obtain ⟨bb, off, rfl, k0, k1, k2, k3, k4, k5⟩ := hcl j hjn
      have hd1 : decide ((j : Int) < (n : Int)) = true := by simp; omega
      have hd2 : (j : Int) < (n : Int) := by omega
      have hd3 : decide ((j : Int) < 4398046511104) = true := by simp; omega
      generalize os j = o at *
      have hfr := hI.1.fr0
      have bbl : bb < wr.heap.size := Nat.lt_of_lt_of_le (World.block_lt_of_cell? _ _ k0) hfr.size
      have c0 := hfr.cell k0 (fun h => h)
      have c1 := hfr.cell k1 (fun h => h)
      have c2 := hfr.cell k2 (fun h => h)
      have c3 := hfr.cell k3 (fun h => h)
      have c4 := hfr.cell k4 (fun h => h)
      have c5 := hfr.cell k5 (fun h => h)
      have HR1 : Hid (RS st0 w (wr.alloc (opO2 o)) z y x ym xm bm s s [(wr.heap.size, opO2 o)]) := hI.alloc _
      have HD : Hid (Calls Tryz.prog 10 #[.pointer (some ⟨y, 0, none⟩), .agg #[.int .i64 o.k, .int .i64 o.a, .int .i64 o.b, .int .i64 o.c, .string (str o.s), .string (str o.t)]] (wr.alloc (.cells #[.int .i64 o.k, .int .i64 o.a, .int .i64 o.b, .int .i64 o.c, .string (str o.s), .string (str o.t)] 37)) fun e w' => e = .returned (.agg #[.int .i64 (doA s o).e, .int .i64 (doA s o).n, .int .i64 0, .string (str (doA s o).s)]) ∧ RS st0 w w' z y x ym xm bm (doS s o) s [(wr.heap.size, opO2 o)]) := HR1.out.turn (HR1.out.1.do hf (by omega) o)
      have HM : Hid (∀ W L, RS st0 w W z y x ym xm bm (doS s o) s L → Calls Tryz.prog 12 #[.pointer (some ⟨ym, 0, none⟩), .agg #[.int .i64 o.k, .int .i64 o.a, .int .i64 o.b, .int .i64 o.c, .string (str o.s), .string (str o.t)]] W fun e w' => e = .returned (.agg #[.int .i64 (doA s o).e, .int .i64 (doA s o).n, .int .i64 0, .string (str (doA s o).s)]) ∧ RS st0 w w' z y x ym xm bm (doS s o) (doS s o) L) := fun W L h => h.turn (h.1.dom hf (by omega) o)
      have HFS : Hid (Fine (doS s o) ((j : Int) + 1) ∧ Pos (doS s o) ∧ ((j : Int) + 1 < 1000000000000000000)) := ⟨Fine.doS hf _, pos_do hf hp o, by omega⟩
      generalize doA s o = an at *
      generalize doS s o = s' at *
      have HSO : Hid (∀ W sm L, RS st0 w W z y x ym xm bm s' sm L → Calls Tryz.prog 11 #[.pointer (some ⟨z, 0, none⟩)] W fun e w' => e = .returned (.bool true) ∧ RS st0 w w' z y x ym xm bm s' sm L) := fun W sm L h => (h.1.sound HFS.out.1 HFS.out.2.1).mono fun e w' ⟨h1, h2⟩ => ⟨h1, h.pure h2⟩
      have HSH : Hid (∀ W sm L, RS st0 w W z y x ym xm bm s' sm L → Calls Tryz.prog 13 #[.pointer (some ⟨y, 0, none⟩)] W fun e w' => e = .returned (.string (str (ixShow s'))) ∧ RS st0 w w' z y x ym xm bm s' sm L) := fun W sm L h => (h.1.show HFS.out.1 HFS.out.2.2).mono fun e w' ⟨h1, h2⟩ => ⟨h1, h.pure h2⟩
      have HMS : Hid (∀ W L, RS st0 w W z y x ym xm bm s' s' L → Calls Tryz.prog 14 #[.pointer (some ⟨ym, 0, none⟩)] W fun e w' => e = .returned (.string (str (ixShow s'))) ∧ RS st0 w w' z y x ym xm bm s' s' L) := fun W L h => h.turn (h.1.mshow HFS.out.1 HFS.out.2.2)
      have HXS : Hid (∀ W sm L, RS st0 w W z y x ym xm bm s' sm L → Calls Tryz.prog 15 #[.pointer (some ⟨x, 0, none⟩)] W fun e w' => e = .returned (.string (str (ixShow s'))) ∧ RS st0 w w' z y x ym xm bm s' sm L) := fun W sm L h => (h.1.xshow HFS.out.1 HFS.out.2.2).mono fun e w' ⟨h1, h2⟩ => ⟨h1, h.pure h2⟩
      have HSS : Hid (∀ W sm L, RS st0 w W z y x ym xm bm s' sm L → Calls Tryz.prog 16 #[.pointer (some ⟨st0, 0, none⟩)] W fun e w' => e = .returned (.string (str s'.show)) ∧ RS st0 w w' z y x ym xm bm s' sm L) := fun W sm L h => (h.1.sshow HFS.out.1 HFS.out.2.2).mono fun e w' ⟨h1, h2⟩ => ⟨h1, h.pure h2⟩
      obtain ⟨rest, hrest⟩ : ∃ rest, ixShow s' = (s'.show ++ [35]) ++ rest := ⟨_, rfl⟩
      rw [hrest] at HSH HMS HXS
      have hshl := show_len HFS.out.1
      clear hrest
      generalize s'.show = sh at *
      have h35 : str sh ++ (⟨#[35]⟩ : ByteArray) = str (sh ++ [35]) := by rw [← str_append]; rfl
      have htl : (sh ++ [35]).length = sh.length + 1 := by simp
      generalize sh ++ [35] = txt at *
      have hfl : (txt ++ rest).length = txt.length + rest.length := by simp
      have htk : (txt ++ rest).take txt.length = txt := by simp
      generalize txt ++ rest = full at *
      have hsl2 : ∀ W, (Instr.slice 9 (.string (str full)) none (some (.int .i64 (txt.length : Int))) none).run Tryz.prog W = .ok (.string (str txt)) W := fun W => by
        rw [run_slice_string_h (P := Tryz.prog) W 9 (str full) Tryz.underlying9 .i64 (txt.length : Int) (by omega) (by rw [str_size]; omega), Int.toNat_natCast, str_extract, htk, List.drop_zero]
      have hq1 : decide ((full.length : Int) < (txt.length : Int)) = false := by simp; omega
      have hq2 : ¬ (full.length : Int) < (txt.length : Int) := by omega
      have hq3 : ¬ full.length < txt.length := by omega
      have hst := sameAns_true an.e an.n 0 an.s
      clear htk hfl hI hf hp hcl hfr
      obtain ⟨BX, hBX⟩ : ∃ BX, wr.heap.size = BX := ⟨_, rfl⟩
      rw [hBX] at HD HR1
      by_cases hk8 : o.k = 8
      · have hk8b : (o.k == 8) = true := by simp [hk8]
        clear hk8
        cases quiet
        · go_upto_region 16 with (first
            | (go_at_call 10; refine HD.out.mono ?_; rintro e wA ⟨rfl, hA⟩
               have HR : Hid (RS st0 w (wA.alloc (.cells #[.int .i64 an.e, .int .i64 an.n, .int .i64 0, .string (str an.s)] 40)) z y x ym xm bm s' s [(wA.heap.size, ansO2 an), (BX, opO2 o)]) := hA.alloc (ansO2 an)
               obtain ⟨x0, x1, x2, x3, x4, x5, xl⟩ := op_at (hA.2 (BX, opO2 o) (by simp)))
            | (go_at_call 11; refine (HSO.out _ _ _ HR.out).mono ?_; rintro e wS ⟨rfl, hS⟩
               have HR : Hid (RS st0 w wS z y x ym xm bm s' s [(wA.heap.size, ansO2 an), (BX, opO2 o)]) := hS
               obtain ⟨x0, x1, x2, x3, x4, x5, xl⟩ := op_at (hS.2 (BX, opO2 o) (by simp)))
            | (go_at_call 12; refine (HM.out _ _ HR.out).mono ?_; rintro e wB ⟨rfl, hB⟩
               have HR : Hid (RS st0 w (wB.alloc (.cells #[.int .i64 an.e, .int .i64 an.n, .int .i64 0, .string (str an.s)] 40)) z y x ym xm bm s' s' [(wB.heap.size, ansO2 an), (wA.heap.size, ansO2 an), (BX, opO2 o)]) := hB.alloc (ansO2 an)
               obtain ⟨a0, a1, a2, a3, al⟩ := ans_at (hB.2 (wA.heap.size, ansO2 an) (by simp))))
          go_upto_region 24 with (first
            | (go_at_call 13; refine (HSH.out _ _ _ HR.out).mono ?_; rintro e wC ⟨rfl, hC⟩
               have HR : Hid (RS st0 w wC z y x ym xm bm s' s' [(wB.heap.size, ansO2 an), (wA.heap.size, ansO2 an), (BX, opO2 o)]) := hC)
            | (go_at_call 14; refine (HMS.out _ _ HR.out).mono ?_; rintro e wD ⟨rfl, hD⟩
               have HR : Hid (RS st0 w wD z y x ym xm bm s' s' [(wB.heap.size, ansO2 an), (wA.heap.size, ansO2 an), (BX, opO2 o)]) := hD)
            | (go_at_call 11; refine (HSO.out _ _ _ HR.out).mono ?_; rintro e wE ⟨rfl, hE⟩
               have HR : Hid (RS st0 w wE z y x ym xm bm s' s' [(wB.heap.size, ansO2 an), (wA.heap.size, ansO2 an), (BX, opO2 o)]) := hE
               obtain ⟨t0, t1, t2, tl⟩ := tow_at hE.1.root)
            | (go_at_call 15; refine (HXS.out _ _ _ HR.out).mono ?_; rintro e wF ⟨rfl, hF⟩
               have HR : Hid (RS st0 w wF z y x ym xm bm s' s' [(wB.heap.size, ansO2 an), (wA.heap.size, ansO2 an), (BX, opO2 o)]) := hF
               obtain ⟨t0, t1, t2, tl⟩ := tow_at hF.1.root)
            | (go_at_call 16; refine (HSS.out _ _ _ HR.out).mono ?_; rintro e wG ⟨rfl, hG⟩
               have HR : Hid (RS st0 w wG z y x ym xm bm s' s' [(wB.heap.size, ansO2 an), (wA.heap.size, ansO2 an), (BX, opO2 o)]) := hG))
          clear htl hshl h35 HSH HMS HXS HSS HSO HM HD hst
          go_wp2
          go_roundw
          case rel => exact ⟨j + 1, s', by omega, by go_num, by simpa using HFS.out.1, HFS.out.2.1, HR.out.nil⟩
          case measure => simp [intOf]; omega
        · go_wp2_with first
            | (go_at_call 10; refine HD.out.mono ?_; rintro e wA ⟨rfl, hA⟩
               have HR : Hid (RS st0 w (wA.alloc (.cells #[.int .i64 an.e, .int .i64 an.n, .int .i64 0, .string (str an.s)] 40)) z y x ym xm bm s' s [(wA.heap.size, ansO2 an), (BX, opO2 o)]) := hA.alloc (ansO2 an)
               obtain ⟨x0, x1, x2, x3, x4, x5, xl⟩ := op_at (hA.2 (BX, opO2 o) (by simp)))
            | (go_at_call 11; refine (HSO.out _ _ _ HR.out).mono ?_; rintro e wS ⟨rfl, hS⟩
               have HR : Hid (RS st0 w wS z y x ym xm bm s' s [(wA.heap.size, ansO2 an), (BX, opO2 o)]) := hS
               obtain ⟨x0, x1, x2, x3, x4, x5, xl⟩ := op_at (hS.2 (BX, opO2 o) (by simp)))
            | (go_at_call 12; refine (HM.out _ _ HR.out).mono ?_; rintro e wB ⟨rfl, hB⟩
               have HR : Hid (RS st0 w (wB.alloc (.cells #[.int .i64 an.e, .int .i64 an.n, .int .i64 0, .string (str an.s)] 40)) z y x ym xm bm s' s' [(wB.heap.size, ansO2 an), (wA.heap.size, ansO2 an), (BX, opO2 o)]) := hB.alloc (ansO2 an)
               obtain ⟨a0, a1, a2, a3, al⟩ := ans_at (hB.2 (wA.heap.size, ansO2 an) (by simp)))
          go_roundw
          case rel => exact ⟨j + 1, s', by omega, by go_num, by simpa using HFS.out.1, HFS.out.2.1, HR.out.nil⟩
          case measure => simp [intOf]; omega
      · have hk8b : (o.k == 8) = false := by simp [hk8]
        clear hk8
        cases quiet
        · go_upto_region 16 with (first
            | (go_at_call 10; refine HD.out.mono ?_; rintro e wA ⟨rfl, hA⟩
               have HR : Hid (RS st0 w (wA.alloc (.cells #[.int .i64 an.e, .int .i64 an.n, .int .i64 0, .string (str an.s)] 40)) z y x ym xm bm s' s [(wA.heap.size, ansO2 an), (BX, opO2 o)]) := hA.alloc (ansO2 an)
               obtain ⟨x0, x1, x2, x3, x4, x5, xl⟩ := op_at (hA.2 (BX, opO2 o) (by simp)))
            | (go_at_call 12; refine (HM.out _ _ HR.out).mono ?_; rintro e wB ⟨rfl, hB⟩
               have HR : Hid (RS st0 w (wB.alloc (.cells #[.int .i64 an.e, .int .i64 an.n, .int .i64 0, .string (str an.s)] 40)) z y x ym xm bm s' s' [(wB.heap.size, ansO2 an), (wA.heap.size, ansO2 an), (BX, opO2 o)]) := hB.alloc (ansO2 an)
               obtain ⟨a0, a1, a2, a3, al⟩ := ans_at (hB.2 (wA.heap.size, ansO2 an) (by simp))))
          go_upto_region 24 with (first
            | (go_at_call 13; refine (HSH.out _ _ _ HR.out).mono ?_; rintro e wC ⟨rfl, hC⟩
               have HR : Hid (RS st0 w wC z y x ym xm bm s' s' [(wB.heap.size, ansO2 an), (wA.heap.size, ansO2 an), (BX, opO2 o)]) := hC)
            | (go_at_call 14; refine (HMS.out _ _ HR.out).mono ?_; rintro e wD ⟨rfl, hD⟩
               have HR : Hid (RS st0 w wD z y x ym xm bm s' s' [(wB.heap.size, ansO2 an), (wA.heap.size, ansO2 an), (BX, opO2 o)]) := hD)
            | (go_at_call 11; refine (HSO.out _ _ _ HR.out).mono ?_; rintro e wE ⟨rfl, hE⟩
               have HR : Hid (RS st0 w wE z y x ym xm bm s' s' [(wB.heap.size, ansO2 an), (wA.heap.size, ansO2 an), (BX, opO2 o)]) := hE
               obtain ⟨t0, t1, t2, tl⟩ := tow_at hE.1.root)
            | (go_at_call 15; refine (HXS.out _ _ _ HR.out).mono ?_; rintro e wF ⟨rfl, hF⟩
               have HR : Hid (RS st0 w wF z y x ym xm bm s' s' [(wB.heap.size, ansO2 an), (wA.heap.size, ansO2 an), (BX, opO2 o)]) := hF
               obtain ⟨t0, t1, t2, tl⟩ := tow_at hF.1.root)
            | (go_at_call 16; refine (HSS.out _ _ _ HR.out).mono ?_; rintro e wG ⟨rfl, hG⟩
               have HR : Hid (RS st0 w wG z y x ym xm bm s' s' [(wB.heap.size, ansO2 an), (wA.heap.size, ansO2 an), (BX, opO2 o)]) := hG))
          clear htl hshl h35 HSH HMS HXS HSS HSO HM HD hst
          go_wp2
          go_roundw
          case rel => exact ⟨j + 1, s', by omega, by go_num, by simpa using HFS.out.1, HFS.out.2.1, HR.out.nil⟩
          case measure => simp [intOf]; omega
        · go_wp2_with first
            | (go_at_call 10; refine HD.out.mono ?_; rintro e wA ⟨rfl, hA⟩
               have HR : Hid (RS st0 w (wA.alloc (.cells #[.int .i64 an.e, .int .i64 an.n, .int .i64 0, .string (str an.s)] 40)) z y x ym xm bm s' s [(wA.heap.size, ansO2 an), (BX, opO2 o)]) := hA.alloc (ansO2 an)
               obtain ⟨x0, x1, x2, x3, x4, x5, xl⟩ := op_at (hA.2 (BX, opO2 o) (by simp)))
            | (go_at_call 12; refine (HM.out _ _ HR.out).mono ?_; rintro e wB ⟨rfl, hB⟩
               have HR : Hid (RS st0 w (wB.alloc (.cells #[.int .i64 an.e, .int .i64 an.n, .int .i64 0, .string (str an.s)] 40)) z y x ym xm bm s' s' [(wB.heap.size, ansO2 an), (wA.heap.size, ansO2 an), (BX, opO2 o)]) := hB.alloc (ansO2 an)
               obtain ⟨a0, a1, a2, a3, al⟩ := ans_at (hB.2 (wA.heap.size, ansO2 an) (by simp)))
          go_roundw
          case rel => exact ⟨j + 1, s', by omega, by go_num, by simpa using HFS.out.1, HFS.out.2.1, HR.out.nil⟩
          case measure => simp [intOf]; omega
    · have HE : Hid (Fr No w wr) := hI.1.fr0
      have hd : (decide ((j : Int) < (n : Int)) = false ∧ ¬ (j : Int) < (n : Int)) ∨ (decide ((j : Int) < (n : Int)) = true ∧ (j : Int) < (n : Int) ∧ decide ((j : Int) < 4398046511104) = false ∧ ¬ (j : Int) < 4398046511104) := by
        by_cases h : j < n
        · right; exact ⟨by simp; omega, by omega, by simp; omega, by omega⟩
        · left; exact ⟨by simp; omega, by omega⟩
      have hm : (decide ((n : Int) < 4398046511104) = false ∧ ¬ (n : Int) < 4398046511104) ∨ (decide ((n : Int) < 4398046511104) = true ∧ (n : Int) < 4398046511104) := by
        by_cases h : (n : Int) < 4398046511104
        · right; exact ⟨by simp; omega, by omega⟩
        · left; exact ⟨by simp; omega, by omega⟩
      clear hI hf hp hgo hcl
      rcases hd with ⟨hd1, hd2⟩ | ⟨hd1, hd2, hd3, hd4⟩
      all_goals
        rcases hm with ⟨hm1, hm2⟩ | ⟨hm1, hm2⟩
        · go_wp2
          exact bodyPost_ret (v := .tuple #[.int .i64 (-1), .int .i64 4398046511104]) (by simp [results, Tryz.results7, go_sem]) rfl ⟨_, rfl, HE.out⟩
        · go_wp2
          exact bodyPost_ret (v := .tuple #[.int .i64 (-1), .int .i64 n]) (by simp [results, Tryz.results7, go_sem]) rfl ⟨_, rfl, HE.out⟩
end Go.Proofs.Qxb6500357aGreat
