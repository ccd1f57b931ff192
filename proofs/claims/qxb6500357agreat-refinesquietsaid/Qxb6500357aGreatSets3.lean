import Derived.Test.Qxb6500357aGreatSets2
namespace Go.Proofs.Qxb6500357aGreat
open Go.RowKit Go.Tag
set_option linter.unusedVariables false
set_option linter.unusedSimpArgs false
set_option maxRecDepth 100000
attribute [local simp] str_size
attribute [local go_sem] str_size

section
variable (ba bb : Nat) (ha hb : Int → Bool) (w : World)
set_option maxHeartbeats 1000000 in
theorem either_any (h1 : MapFn w ba kInt (setB ha)) (h2 : MapFn w bb kInt (setB hb)) (n1 : Nine ha) (n2 : Nine hb) : Calls Tryz.prog 55 #[.map (some ba), .map (some bb)] w (SetPost w (fun i => ha i || hb i)) := by
  have hln := fun ty => h1.len (P := Tryz.prog) (t := 94) keyInt Tryz.underlying94 (setL_nodup ha) (setL_mem n1) ty
  have hln2 := fun ty => h2.len (P := Tryz.prog) (t := 94) keyInt Tryz.underlying94 (setL_nodup hb) (setL_mem n2) ty
  have hmk := mk113 (setL ha).length (setL_len ha)
  have hmk2 := mk113 (setL hb).length (setL_len hb)
  have haw := h1.lt
  have hbw := h2.lt
  obtain ⟨o, hrg, hR0⟩ := (h1.keep (Below.heap_alloc w (.map #[] 0) _ h1.lt)).range (P := Tryz.prog) (t := 94) keyInt Tryz.underlying94 (setL_nodup ha) (setL_mem n1)
  have e1 : (w.alloc (.map #[] 0)).heap.size = w.heap.size + 1 := by simp
  rw [e1] at hrg hR0
  have HP0 : Hid (PourRel w ha ba (w.heap.size + 1) w.heap.size (orG (fun _ => false) ha) ((w.alloc (.map #[] 0)).alloc o)) := by
    refine ⟨_, _, hR0, ?_, ((Fr.refl _ _).alloc _).alloc _⟩
    rw [orG_start]
    refine ((mapFn_new w).keep (Below.heap_alloc _ _ _ (by simp))).congr (fun k => by simp [setB])
  have H2 : Hid (MapFn w bb kInt (setB hb) ∧ Nine hb) := ⟨h2, n2⟩
  clear hR0 h1 h2 n1 n2
  by_cases hcmp : ((setL ha).length : Int) < ((setL hb).length : Int)
  · have hcd : decide (((setL ha).length : Int) < ((setL hb).length : Int)) = true := by simpa using hcmp
    go_enter Tryz.func55, Tryz.ntmps55
    go_wp2
    go_loopw [] (fun wr => PourRel w ha ba (w.heap.size + 1) w.heap.size (orG (fun _ => false) ha) wr) (fun wr => toGo ba (w.heap.size + 1) wr)
    case atStart => exact HP0.out
    case round =>
      obtain ⟨left, cnt, hR, hM, hF⟩ := hrel
      rcases hR.next (P := Tryz.prog) keyInt 0 with ⟨h0, hall, hnx⟩ | ⟨k, v, w1, hlk, hfk, hnx, hpos, hR1, hF1, hsz, hen⟩
      · rw [orG_end _ _ _ hall] at hM
        have hM : MapFn wr w.heap.size kInt (setB ha) := hM.congr (fun k => by simp [setB])
        have hwr := hM.lt
        have hb2 := H2.out.1.fr hF (fun h => h)
        obtain ⟨o2, hrg2, hR2⟩ := hb2.range (P := Tryz.prog) (t := 94) keyInt Tryz.underlying94 (setL_nodup hb) (setL_mem H2.out.2)
        have HP1 : Hid (PourRel w hb bb wr.heap.size w.heap.size (orG ha hb) (wr.alloc o2)) := by
          refine ⟨_, _, hR2, ?_, hF.alloc _⟩
          rw [orG_start]
          exact hM.keep (Below.heap_alloc _ _ _ hwr)
        have hws : w.heap.size ≤ wr.heap.size := hF.size
        clear hR hM hF hb2 hR2 hall
        go_wp2
        generalize wr.heap.size = g2 at *
        go_loopw [] (fun wr => PourRel w hb bb g2 w.heap.size (orG ha hb) wr) (fun wr => toGo bb g2 wr)
        case atStart => exact HP1.out
        case round =>
          obtain ⟨left, cnt, hR, hM, hF⟩ := hrel
          rcases hR.next (P := Tryz.prog) keyInt 0 with ⟨h0, hall, hnx⟩ | ⟨k, v, w1, hlk, hfk, hnx, hpos, hR1, hF1, hsz, hen⟩
          · have HE : Hid (SetPost w (fun i => ha i || hb i) (.returned (.map (some w.heap.size))) wr) := by
              rw [orG_end _ _ _ hall] at hM
              exact ⟨_, rfl, .inr ⟨_, rfl, hM⟩, hF⟩
            clear hR hM hF hall
            go_wp2
            go_ret
            exact HE.out
          · simp only [kInt] at hnx hen
            obtain ⟨w2, hu, hM2, ht2⟩ := (hM.fr hF1 (by omega)).update' (P := Tryz.prog) (t := 94) keyInt Tryz.underlying94 k (.bool true)
            simp only [kInt] at hu
            have HK : Hid (PourRel w hb bb g2 w.heap.size (orG ha hb) w2 ∧ toGo bb g2 w2 < toGo bb g2 wr) := by
              have := pour_put hws (Nat.le_refl _) (by omega) (by omega) hR1 hF1 hF (setB_true hfk) hM2 ht2
              exact ⟨this.1, by rw [this.2, hR.toGo]; omega⟩
            clear hR hM hF hR1 hF1 hM2 ht2 hlk hfk hsz
            go_wp2
            go_roundw
            case rel => exact HK.out.1
            case measure => exact HK.out.2
      · simp only [kInt] at hnx hen
        obtain ⟨w2, hu, hM2, ht2⟩ := (hM.fr hF1 (by omega)).update' (P := Tryz.prog) (t := 94) keyInt Tryz.underlying94 k (.bool true)
        simp only [kInt] at hu
        have HK : Hid (PourRel w ha ba (w.heap.size + 1) w.heap.size (orG (fun _ => false) ha) w2 ∧ toGo ba (w.heap.size + 1) w2 < toGo ba (w.heap.size + 1) wr) := by
          have := pour_put (Nat.le_succ _) (Nat.le_refl _) (by omega) (by omega) hR1 hF1 hF (setB_true hfk) hM2 ht2
          exact ⟨this.1, by rw [this.2, hR.toGo]; omega⟩
        clear hR hM hF hR1 hF1 hM2 ht2 hlk hfk hsz
        go_wp2
        go_roundw
        case rel => exact HK.out.1
        case measure => exact HK.out.2
  · have hcd : decide (((setL ha).length : Int) < ((setL hb).length : Int)) = false := by simpa using hcmp
    go_enter Tryz.func55, Tryz.ntmps55
    go_wp2
    go_loopw [] (fun wr => PourRel w ha ba (w.heap.size + 1) w.heap.size (orG (fun _ => false) ha) wr) (fun wr => toGo ba (w.heap.size + 1) wr)
    case atStart => exact HP0.out
    case round =>
      obtain ⟨left, cnt, hR, hM, hF⟩ := hrel
      rcases hR.next (P := Tryz.prog) keyInt 0 with ⟨h0, hall, hnx⟩ | ⟨k, v, w1, hlk, hfk, hnx, hpos, hR1, hF1, hsz, hen⟩
      · rw [orG_end _ _ _ hall] at hM
        have hM : MapFn wr w.heap.size kInt (setB ha) := hM.congr (fun k => by simp [setB])
        have hwr := hM.lt
        have hb2 := H2.out.1.fr hF (fun h => h)
        obtain ⟨o2, hrg2, hR2⟩ := hb2.range (P := Tryz.prog) (t := 94) keyInt Tryz.underlying94 (setL_nodup hb) (setL_mem H2.out.2)
        have HP1 : Hid (PourRel w hb bb wr.heap.size w.heap.size (orG ha hb) (wr.alloc o2)) := by
          refine ⟨_, _, hR2, ?_, hF.alloc _⟩
          rw [orG_start]
          exact hM.keep (Below.heap_alloc _ _ _ hwr)
        have hws : w.heap.size ≤ wr.heap.size := hF.size
        clear hR hM hF hb2 hR2 hall
        go_wp2
        generalize wr.heap.size = g2 at *
        go_loopw [] (fun wr => PourRel w hb bb g2 w.heap.size (orG ha hb) wr) (fun wr => toGo bb g2 wr)
        case atStart => exact HP1.out
        case round =>
          obtain ⟨left, cnt, hR, hM, hF⟩ := hrel
          rcases hR.next (P := Tryz.prog) keyInt 0 with ⟨h0, hall, hnx⟩ | ⟨k, v, w1, hlk, hfk, hnx, hpos, hR1, hF1, hsz, hen⟩
          · have HE : Hid (SetPost w (fun i => ha i || hb i) (.returned (.map (some w.heap.size))) wr) := by
              rw [orG_end _ _ _ hall] at hM
              exact ⟨_, rfl, .inr ⟨_, rfl, hM⟩, hF⟩
            clear hR hM hF hall
            go_wp2
            go_ret
            exact HE.out
          · simp only [kInt] at hnx hen
            obtain ⟨w2, hu, hM2, ht2⟩ := (hM.fr hF1 (by omega)).update' (P := Tryz.prog) (t := 94) keyInt Tryz.underlying94 k (.bool true)
            simp only [kInt] at hu
            have HK : Hid (PourRel w hb bb g2 w.heap.size (orG ha hb) w2 ∧ toGo bb g2 w2 < toGo bb g2 wr) := by
              have := pour_put hws (Nat.le_refl _) (by omega) (by omega) hR1 hF1 hF (setB_true hfk) hM2 ht2
              exact ⟨this.1, by rw [this.2, hR.toGo]; omega⟩
            clear hR hM hF hR1 hF1 hM2 ht2 hlk hfk hsz
            go_wp2
            go_roundw
            case rel => exact HK.out.1
            case measure => exact HK.out.2
      · simp only [kInt] at hnx hen
        obtain ⟨w2, hu, hM2, ht2⟩ := (hM.fr hF1 (by omega)).update' (P := Tryz.prog) (t := 94) keyInt Tryz.underlying94 k (.bool true)
        simp only [kInt] at hu
        have HK : Hid (PourRel w ha ba (w.heap.size + 1) w.heap.size (orG (fun _ => false) ha) w2 ∧ toGo ba (w.heap.size + 1) w2 < toGo ba (w.heap.size + 1) wr) := by
          have := pour_put (Nat.le_succ _) (Nat.le_refl _) (by omega) (by omega) hR1 hF1 hF (setB_true hfk) hM2 ht2
          exact ⟨this.1, by rw [this.2, hR.toGo]; omega⟩
        clear hR hM hF hR1 hF1 hM2 ht2 hlk hfk hsz
        go_wp2
        go_roundw
        case rel => exact HK.out.1
        case measure => exact HK.out.2
end
end Go.Proofs.Qxb6500357aGreat
