import Derived.Test.Qxb6500357aGreatSets3
namespace Go.Proofs.Qxb6500357aGreat
open Go.RowKit Go.Tag
set_option linter.unusedVariables false
set_option linter.unusedSimpArgs false
set_option maxRecDepth 100000
attribute [local simp] str_size
attribute [local go_sem] str_size

section
variable (ba bb : Nat) (ha hb : Int → Bool) (w : World)

/-- What the loop of both leaves in 'out'. -/
def BothRel (w : World) (ha hb : Int → Bool) (ba r : Nat) (v : Value) (wr : World) : Prop :=
  ∃ left cnt, RangeFn wr ba r kInt (setB ha) left cnt ∧ Fr No w wr ∧ ((v = .map none ∧ ∀ i, (ha i && hb i && !left i) = false) ∨ ∃ bo, v = .map (some bo) ∧ w.heap.size < bo ∧ MapFn wr bo kInt (setB fun i => ha i && hb i && !left i))

theorem andG_step (ha hb left : Int → Bool) (k : Int) (hk : ha k = true) (hk2 : hb k = true) : (setB fun i => ha i && hb i && !(left i && !decide (i = k))) = upd (setB fun i => ha i && hb i && !left i) k (some (.bool true)) := by
  funext i
  unfold setB upd
  by_cases h : i = k
  · subst h; simp [hk, hk2]
  · simp [h]
theorem andG_skip (ha hb left : Int → Bool) (k : Int) (hk2 : hb k = false) : (fun i => ha i && hb i && !(left i && !decide (i = k))) = fun i => ha i && hb i && !left i := by
  funext i
  by_cases h : i = k
  · subst h; simp [hk2]
  · simp [h]

theorem setB_getD (h : Int → Bool) (k : Int) : (setB h k).getD (.bool false) = .bool (h k) := by unfold setB; cases h k <;> simp
set_option maxHeartbeats 1000000 in
theorem both_any (ha' : MapFn w ba kInt (setB ha)) (hb' : MapFn w bb kInt (setB hb)) (na : Nine ha) (nb : Nine hb) : Calls Tryz.prog 54 #[.map (some ba), .map (some bb)] w (SetPost w (fun i => ha i && hb i)) := by
  have hln := fun ty => ha'.len (P := Tryz.prog) (t := 94) keyInt Tryz.underlying94 (setL_nodup ha) (setL_mem na) ty
  have hln2 := fun ty => hb'.len (P := Tryz.prog) (t := 94) keyInt Tryz.underlying94 (setL_nodup hb) (setL_mem nb) ty
  have haw := ha'.lt
  have hbw := hb'.lt
  by_cases hcmp : ((setL hb).length : Int) < ((setL ha).length : Int)
  · have hcd : decide (((setL hb).length : Int) < ((setL ha).length : Int)) = true := by simpa using hcmp
    obtain ⟨o, hrg, hR0⟩ := hb'.range (P := Tryz.prog) (t := 94) keyInt Tryz.underlying94 (setL_nodup hb) (setL_mem nb)
    have HP0 : Hid (BothRel w hb ha bb w.heap.size (.map none) (w.alloc o)) :=
      ⟨_, _, hR0, (Fr.refl _ _).alloc _, .inl ⟨rfl, fun i => by unfold setB; cases h : hb i <;> simp [h]⟩⟩
    have HY : Hid (MapFn w ba kInt (setB ha)) := ha'
    clear hR0 ha' hb' na nb
    go_enter Tryz.func54, Tryz.ntmps54
    go_wp2
    go_loopw [5] (fun v wr => BothRel w hb ha bb w.heap.size v wr) (fun _ wr => toGo bb w.heap.size wr)
    case atStart => exact HP0.out
    case round =>
      obtain ⟨left, cnt, hR, hF, hV⟩ := hrel
      rcases hR.next (P := Tryz.prog) keyInt 0 with ⟨h0, hall, hnx⟩ | ⟨k, v, w1, hlk, hfk, hnx, hpos, hR1, hF1, hsz, hen⟩
      · have HE : Hid (SetPost w (fun i => ha i && hb i) (.returned u5) wr) := by
          have e : (fun i => hb i && ha i && !left i) = fun i => ha i && hb i := by funext i; simp [hall, Bool.and_comm]
          rcases hV with ⟨h1, h2⟩ | ⟨bo, h1, h2, h3⟩
          · exact ⟨u5, rfl, .inl ⟨h1, fun i => (congrFun e i).symm.trans (h2 i)⟩, hF⟩
          · exact ⟨u5, rfl, .inr ⟨bo, h1, by rw [← e]; exact h3⟩, hF⟩
        clear hR hF hall hV
        go_wp2
        go_ret
        exact HE.out
      · simp only [kInt] at hnx hen
        have hk := setB_true hfk
        have hFw1 : Fr No w w1 := hF.trans' hF1 (fun i hi e => by omega)
        have hlY : (Instr.lookup 94 (.map (some ba)) (.int .i64 k) false).run Tryz.prog w1 = .ok (.bool (ha k)) w1 := by
          have := (HY.out.fr hFw1 (fun h => h)).lookup_v (P := Tryz.prog) (t := 94) keyInt Tryz.underlying94 (zero4 _) k
          rw [setB_getD] at this; exact this
        have htg := hR.toGo
        have htg1 := hR1.toGo
        have hXw : bb < w.heap.size := hbw
        cases hkb : ha k with
        | false =>
          rw [hkb] at hlY
          have HK : Hid (BothRel w hb ha bb w.heap.size u5 w1 ∧ toGo bb w.heap.size w1 < toGo bb w.heap.size wr) := by
            refine ⟨⟨_, _, hR1, hFw1, ?_⟩, by omega⟩
            rw [andG_skip hb ha left k hkb]
            rcases hV with ⟨h1, h2⟩ | ⟨bo, h1, h2, h3⟩
            · exact .inl ⟨h1, fun i => (congrFun (andG_skip hb ha left k hkb) i).trans (h2 i)⟩
            · exact .inr ⟨bo, h1, h2, h3.fr hF1 (by omega)⟩
          clear hR hF hR1 hF1 hlk hfk hsz hkb htg htg1 hV hFw1 hk
          go_wp2
          go_roundw
          case rel => exact HK.out.1
          case measure => exact HK.out.2
        | true =>
          rw [hkb] at hlY
          have hnilq := fun w r => run_eql_map_nil (P := Tryz.prog) w 94 3 4 r Tryz.underlying94
          have hmm := @run_makeMap Tryz.prog
          rcases hV with ⟨rfl, h2⟩ | ⟨bo, rfl, h2, h3⟩
          · have hm0 : MapFn (w1.alloc (.map #[] 0)) w1.heap.size kInt (setB fun i => hb i && ha i && !left i) := (mapFn_new w1).congr (fun i => by have := h2 i; unfold setB; simp only [this]; rfl)
            obtain ⟨w2, hu, hM2, ht2⟩ := hm0.update' (P := Tryz.prog) (t := 94) keyInt Tryz.underlying94 k (.bool true)
            simp only [kInt] at hu
            have hr1 := hR1.lt
            have HK : Hid (BothRel w hb ha bb w.heap.size (.map (some w1.heap.size)) w2 ∧ toGo bb w.heap.size w2 < toGo bb w.heap.size wr) := by
              have hR2 := (hR1.fr ((Fr.refl No w1).alloc (.map #[] 0)) (fun h => h) (fun h => h)).fr ht2.fr (by omega) (by omega)
              refine ⟨⟨_, _, hR2, (hFw1.alloc _).trans' ht2.fr (fun i hi e => by omega), .inr ⟨_, rfl, hr1, ?_⟩⟩, by rw [hR2.toGo]; omega⟩
              rw [andG_step hb ha left k hk hkb]; exact hM2
            clear hR hF hR1 hF1 hlk hfk hsz hkb htg htg1 hFw1 hk hm0 hM2 ht2 h2
            go_wp2
            go_roundw
            case rel => exact HK.out.1
            case measure => exact HK.out.2
          · obtain ⟨w2, hu, hM2, ht2⟩ := (h3.fr hF1 (by omega)).update' (P := Tryz.prog) (t := 94) keyInt Tryz.underlying94 k (.bool true)
            simp only [kInt] at hu
            have HK : Hid (BothRel w hb ha bb w.heap.size (.map (some bo)) w2 ∧ toGo bb w.heap.size w2 < toGo bb w.heap.size wr) := by
              have hR2 := hR1.fr ht2.fr (by omega) (by omega)
              refine ⟨⟨_, _, hR2, hFw1.trans' ht2.fr (fun i hi e => by omega), .inr ⟨bo, rfl, h2, ?_⟩⟩, by rw [hR2.toGo]; omega⟩
              rw [andG_step hb ha left k hk hkb]; exact hM2
            clear hR hF hR1 hF1 hlk hfk hsz hkb htg htg1 hFw1 hk hM2 ht2 h3
            go_wp2
            go_roundw
            case rel => exact HK.out.1
            case measure => exact HK.out.2
  · have hcd : decide (((setL hb).length : Int) < ((setL ha).length : Int)) = false := by simpa using hcmp
    obtain ⟨o, hrg, hR0⟩ := ha'.range (P := Tryz.prog) (t := 94) keyInt Tryz.underlying94 (setL_nodup ha) (setL_mem na)
    have HP0 : Hid (BothRel w ha hb ba w.heap.size (.map none) (w.alloc o)) :=
      ⟨_, _, hR0, (Fr.refl _ _).alloc _, .inl ⟨rfl, fun i => by unfold setB; cases h : ha i <;> simp [h]⟩⟩
    have HY : Hid (MapFn w bb kInt (setB hb)) := hb'
    clear hR0 ha' hb' na nb
    go_enter Tryz.func54, Tryz.ntmps54
    go_wp2
    go_loopw [5] (fun v wr => BothRel w ha hb ba w.heap.size v wr) (fun _ wr => toGo ba w.heap.size wr)
    case atStart => exact HP0.out
    case round =>
      obtain ⟨left, cnt, hR, hF, hV⟩ := hrel
      rcases hR.next (P := Tryz.prog) keyInt 0 with ⟨h0, hall, hnx⟩ | ⟨k, v, w1, hlk, hfk, hnx, hpos, hR1, hF1, hsz, hen⟩
      · have HE : Hid (SetPost w (fun i => ha i && hb i) (.returned u5) wr) := by
          have e : (fun i => ha i && hb i && !left i) = fun i => ha i && hb i := by funext i; simp [hall]
          rcases hV with ⟨h1, h2⟩ | ⟨bo, h1, h2, h3⟩
          · exact ⟨u5, rfl, .inl ⟨h1, fun i => (congrFun e i).symm.trans (h2 i)⟩, hF⟩
          · exact ⟨u5, rfl, .inr ⟨bo, h1, by rw [← e]; exact h3⟩, hF⟩
        clear hR hF hall hV
        go_wp2
        go_ret
        exact HE.out
      · simp only [kInt] at hnx hen
        have hk := setB_true hfk
        have hFw1 : Fr No w w1 := hF.trans' hF1 (fun i hi e => by omega)
        have hlY : (Instr.lookup 94 (.map (some bb)) (.int .i64 k) false).run Tryz.prog w1 = .ok (.bool (hb k)) w1 := by
          have := (HY.out.fr hFw1 (fun h => h)).lookup_v (P := Tryz.prog) (t := 94) keyInt Tryz.underlying94 (zero4 _) k
          rw [setB_getD] at this; exact this
        have htg := hR.toGo
        have htg1 := hR1.toGo
        have hXw : ba < w.heap.size := haw
        cases hkb : hb k with
        | false =>
          rw [hkb] at hlY
          have HK : Hid (BothRel w ha hb ba w.heap.size u5 w1 ∧ toGo ba w.heap.size w1 < toGo ba w.heap.size wr) := by
            refine ⟨⟨_, _, hR1, hFw1, ?_⟩, by omega⟩
            rw [andG_skip ha hb left k hkb]
            rcases hV with ⟨h1, h2⟩ | ⟨bo, h1, h2, h3⟩
            · exact .inl ⟨h1, fun i => (congrFun (andG_skip ha hb left k hkb) i).trans (h2 i)⟩
            · exact .inr ⟨bo, h1, h2, h3.fr hF1 (by omega)⟩
          clear hR hF hR1 hF1 hlk hfk hsz hkb htg htg1 hV hFw1 hk
          go_wp2
          go_roundw
          case rel => exact HK.out.1
          case measure => exact HK.out.2
        | true =>
          rw [hkb] at hlY
          have hnilq := fun w r => run_eql_map_nil (P := Tryz.prog) w 94 3 4 r Tryz.underlying94
          have hmm := @run_makeMap Tryz.prog
          rcases hV with ⟨rfl, h2⟩ | ⟨bo, rfl, h2, h3⟩
          · have hm0 : MapFn (w1.alloc (.map #[] 0)) w1.heap.size kInt (setB fun i => ha i && hb i && !left i) := (mapFn_new w1).congr (fun i => by have := h2 i; unfold setB; simp only [this]; rfl)
            obtain ⟨w2, hu, hM2, ht2⟩ := hm0.update' (P := Tryz.prog) (t := 94) keyInt Tryz.underlying94 k (.bool true)
            simp only [kInt] at hu
            have hr1 := hR1.lt
            have HK : Hid (BothRel w ha hb ba w.heap.size (.map (some w1.heap.size)) w2 ∧ toGo ba w.heap.size w2 < toGo ba w.heap.size wr) := by
              have hR2 := (hR1.fr ((Fr.refl No w1).alloc (.map #[] 0)) (fun h => h) (fun h => h)).fr ht2.fr (by omega) (by omega)
              refine ⟨⟨_, _, hR2, (hFw1.alloc _).trans' ht2.fr (fun i hi e => by omega), .inr ⟨_, rfl, hr1, ?_⟩⟩, by rw [hR2.toGo]; omega⟩
              rw [andG_step ha hb left k hk hkb]; exact hM2
            clear hR hF hR1 hF1 hlk hfk hsz hkb htg htg1 hFw1 hk hm0 hM2 ht2 h2
            go_wp2
            go_roundw
            case rel => exact HK.out.1
            case measure => exact HK.out.2
          · obtain ⟨w2, hu, hM2, ht2⟩ := (h3.fr hF1 (by omega)).update' (P := Tryz.prog) (t := 94) keyInt Tryz.underlying94 k (.bool true)
            simp only [kInt] at hu
            have HK : Hid (BothRel w ha hb ba w.heap.size (.map (some bo)) w2 ∧ toGo ba w.heap.size w2 < toGo ba w.heap.size wr) := by
              have hR2 := hR1.fr ht2.fr (by omega) (by omega)
              refine ⟨⟨_, _, hR2, hFw1.trans' ht2.fr (fun i hi e => by omega), .inr ⟨bo, rfl, h2, ?_⟩⟩, by rw [hR2.toGo]; omega⟩
              rw [andG_step ha hb left k hk hkb]; exact hM2
            clear hR hF hR1 hF1 hlk hfk hsz hkb htg htg1 hFw1 hk hM2 ht2 h3
            go_wp2
            go_roundw
            case rel => exact HK.out.1
            case measure => exact HK.out.2
end
end Go.Proofs.Qxb6500357aGreat
