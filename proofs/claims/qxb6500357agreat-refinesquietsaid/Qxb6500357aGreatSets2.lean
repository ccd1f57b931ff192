import Derived.Test.Qxb6500357aGreatSets
namespace Go.Proofs.Qxb6500357aGreat
open Go.RowKit Go.Tag
set_option linter.unusedVariables false
set_option linter.unusedSimpArgs false
set_option maxRecDepth 100000
attribute [local simp] str_size
attribute [local go_sem] str_size

/-- Behind some rounds of a range over the set a: the set out is G. -/
def PourRel (w : World) (ha : Int → Bool) (ba r bo : Nat) (G : (Int → Bool) → Int → Bool) (wr : World) : Prop :=
  ∃ left cnt, RangeFn wr ba r kInt (setB ha) left cnt ∧ MapFn wr bo kInt (setB (G left)) ∧ Fr No w wr
def orG (h0 ha : Int → Bool) (left : Int → Bool) (i : Int) : Bool := h0 i || (ha i && !left i)
def subG (h0 hb : Int → Bool) (left : Int → Bool) (i : Int) : Bool := h0 i && !(hb i && !left i)
theorem orG_step (h0 ha left : Int → Bool) (k : Int) (hk : ha k = true) : setB (orG h0 ha (fun j => left j && !decide (j = k))) = upd (setB (orG h0 ha left)) k (some (.bool true)) := by
  funext i
  unfold setB orG upd
  by_cases h : i = k
  · subst h; simp [hk]
  · simp [h]
theorem subG_step (h0 hb left : Int → Bool) (k : Int) (hk : hb k = true) : setB (subG h0 hb (fun j => left j && !decide (j = k))) = upd (setB (subG h0 hb left)) k none := by
  funext i
  unfold setB subG upd
  by_cases h : i = k
  · subst h; simp [hk]
  · simp [h]
theorem orG_start (h0 ha : Int → Bool) : orG h0 ha (fun k => (setB ha k).isSome) = h0 := by
  funext i; unfold orG setB; cases h : ha i <;> simp [h]
theorem subG_start (h0 hb : Int → Bool) : subG h0 hb (fun k => (setB hb k).isSome) = h0 := by
  funext i; unfold subG setB; cases h : hb i <;> simp [h]
theorem orG_end (h0 ha left : Int → Bool) (hl : ∀ k, left k = false) : orG h0 ha left = fun i => h0 i || ha i := by
  funext i; unfold orG; simp [hl]
theorem subG_end (h0 hb left : Int → Bool) (hl : ∀ k, left k = false) : subG h0 hb left = fun i => h0 i && !hb i := by
  funext i; unfold subG; simp [hl]
theorem setB_true {h : Int → Bool} {k : Int} {v : Value} (hk : setB h k = some v) : h k = true := by
  unfold setB at hk; split at hk
  · assumption
  · cases hk

/-- A round that writes. -/
theorem pour_put {w wr w1 w2 : World} {ha h0 : Int → Bool} {ba r bo : Nat} {left : Int → Bool} {cnt : Nat} {k : Int} (hbr : w.heap.size ≤ r) (hbo : w.heap.size ≤ bo) (hra : bo ≠ ba) (hrb : bo ≠ r)
    (hR1 : RangeFn w1 ba r kInt (setB ha) (fun j => left j && !decide (j = k)) cnt) (hF1 : Fr (fun i => i = r) wr w1) (hF : Fr No w wr) (hk : ha k = true)
    (hM2 : MapFn w2 bo kInt (upd (setB (orG h0 ha left)) k (some (.bool true)))) (ht2 : Turned bo w1 w2) : PourRel w ha ba r bo (orG h0 ha) w2 ∧ toGo ba r w2 = cnt := by
  have hR2 := hR1.fr ht2.fr (Ne.symm hra) (Ne.symm hrb)
  exact ⟨⟨_, _, hR2, by rw [orG_step h0 ha left k hk]; exact hM2, (hF.trans' hF1 (fun i hi e => by omega)).trans' ht2.fr (fun i hi e => by omega)⟩, hR2.toGo⟩
theorem pour_del {w wr w1 w2 : World} {hb h0 : Int → Bool} {ba r bo : Nat} {left : Int → Bool} {cnt : Nat} {k : Int} (hbr : w.heap.size ≤ r) (hbo : w.heap.size ≤ bo) (hra : bo ≠ ba) (hrb : bo ≠ r)
    (hR1 : RangeFn w1 ba r kInt (setB hb) (fun j => left j && !decide (j = k)) cnt) (hF1 : Fr (fun i => i = r) wr w1) (hF : Fr No w wr) (hk : hb k = true)
    (hM2 : MapFn w2 bo kInt (upd (setB (subG h0 hb left)) k none)) (ht2 : Turned bo w1 w2) : PourRel w hb ba r bo (subG h0 hb) w2 ∧ toGo ba r w2 = cnt := by
  have hR2 := hR1.fr ht2.fr (Ne.symm hra) (Ne.symm hrb)
  exact ⟨⟨_, _, hR2, by rw [subG_step h0 hb left k hk]; exact hM2, (hF.trans' hF1 (fun i hi e => by omega)).trans' ht2.fr (fun i hi e => by omega)⟩, hR2.toGo⟩

section
variable (ba bb : Nat) (ha hb : Int → Bool) (w : World)
set_option maxHeartbeats 1000000 in
theorem without_any (h1 : MapFn w ba kInt (setB ha)) (h2 : MapFn w bb kInt (setB hb)) (n1 : Nine ha) (n2 : Nine hb) : Calls Tryz.prog 56 #[.map (some ba), .map (some bb)] w (SetPost w (fun i => ha i && !hb i)) := by
  have hln := fun ty => h1.len (P := Tryz.prog) (t := 94) keyInt Tryz.underlying94 (setL_nodup ha) (setL_mem n1) ty
  have hmk := mk113 (setL ha).length (setL_len ha)
  have haw := h1.lt
  have hbw := h2.lt
  obtain ⟨o, hrg, hR0⟩ := (h1.keep (Below.heap_alloc w (.map #[] 0) _ h1.lt)).range (P := Tryz.prog) (t := 94) keyInt Tryz.underlying94 (setL_nodup ha) (setL_mem n1)
  have e1 : (w.alloc (.map #[] 0)).heap.size = w.heap.size + 1 := by simp
  rw [e1] at hrg hR0
  have HP0 : Hid (PourRel w ha ba (w.heap.size + 1) w.heap.size (orG (fun _ => false) ha) ((w.alloc (.map #[] 0)).alloc o)) := by
    refine ⟨_, _, hR0, ?_, ((Fr.refl _ _).alloc _).alloc _⟩
    rw [orG_start]
    refine ((mapFn_new w).keep (Below.heap_alloc _ _ _ (by simp))).congr (fun k => by simp [setB])
  have H2 : Hid (MapFn w bb kInt (setB hb) ∧ Nine hb) := ⟨h2, n2⟩
  clear hR0 h1 h2 n1 n2
  go_enter Tryz.func56, Tryz.ntmps56
  go_wp2
  go_loopw [] (fun wr => PourRel w ha ba (w.heap.size + 1) w.heap.size (orG (fun _ => false) ha) wr) (fun wr => toGo ba (w.heap.size + 1) wr)
  case atStart => exact HP0.out
  case round =>
    obtain ⟨left, cnt, hR, hM, hF⟩ := hrel
    rcases hR.next (P := Tryz.prog) keyInt 0 with ⟨h0, hall, hnx⟩ | ⟨k, v, w1, hlk, hfk, hnx, hpos, hR1, hF1, hsz, hen⟩
    · rw [orG_end _ _ _ hall] at hM
      have hM : MapFn wr w.heap.size kInt (setB ha) := hM.congr (fun k => by simp [setB])
      have hwr := hM.lt
      have hb2 := H2.out.1.fr hF (fun h => h)
      obtain ⟨o2, hrg2, hR2⟩ := hb2.range (P := Tryz.prog) (t := 94) keyInt Tryz.underlying94 (setL_nodup hb) (setL_mem H2.out.2)
      have HP1 : Hid (PourRel w hb bb wr.heap.size w.heap.size (subG ha hb) (wr.alloc o2)) := by
        refine ⟨_, _, hR2, ?_, hF.alloc _⟩
        rw [subG_start]
        exact hM.keep (Below.heap_alloc _ _ _ hwr)
      have hws : w.heap.size ≤ wr.heap.size := hF.size
      clear hR hM hF hb2 hR2 hall
      go_wp2
      generalize wr.heap.size = g2 at *
      go_loopw [] (fun wr => PourRel w hb bb g2 w.heap.size (subG ha hb) wr) (fun wr => toGo bb g2 wr)
      case atStart => exact HP1.out
      case round =>
        obtain ⟨left, cnt, hR, hM, hF⟩ := hrel
        rcases hR.next (P := Tryz.prog) keyInt 0 with ⟨h0, hall, hnx⟩ | ⟨k, v, w1, hlk, hfk, hnx, hpos, hR1, hF1, hsz, hen⟩
        · have HE : Hid (SetPost w (fun i => ha i && !hb i) (.returned (.map (some w.heap.size))) wr) := by
            rw [subG_end _ _ _ hall] at hM
            exact ⟨_, rfl, .inr ⟨_, rfl, hM⟩, hF⟩
          clear hR hM hF hall
          go_wp2
          go_ret
          exact HE.out
        · simp only [kInt] at hnx hen
          obtain ⟨w2, hu, hM2, ht2⟩ := (hM.fr hF1 (by omega)).delete' (P := Tryz.prog) (t := 94) keyInt Tryz.underlying94 k
          simp only [kInt] at hu
          have HK : Hid (PourRel w hb bb g2 w.heap.size (subG ha hb) w2 ∧ toGo bb g2 w2 < toGo bb g2 wr) := by
            have := pour_del hws (Nat.le_refl _) (by omega) (by omega) hR1 hF1 hF (setB_true hfk) hM2 ht2
            exact ⟨this.1, by rw [this.2, hR.toGo]; omega⟩
          clear hR hM hF hR1 hF1 hM2 ht2 hlk hfk hsz
          go_wp2
          go_roundw
          case rel => exact HK.out.1
          case measure => exact HK.out.2
    · simp only [kInt] at hnx hen
      obtain ⟨w2, hu, hM2, ht2⟩ := (hM.fr hF1 (by omega)).update' (P := Tryz.prog) (t := 94) keyInt Tryz.underlying94 k (.bool true)
      simp only [kInt] at hu
      have HK : Hid (PourRel w ha ba (w.heap.size + 1) w.heap.size (orG (fun _ => false) ha) w2 ∧ toGo ba (w.heap.size + 1) w2 < toGo ba (w.heap.size + 1) wr) := by
        have := pour_put (Nat.le_succ _) (Nat.le_refl _) (by omega) (by omega) hR1 hF1 hF (setB_true hfk) hM2 ht2
        exact ⟨this.1, by rw [this.2, hR.toGo]; omega⟩
      clear hR hM hF hR1 hF1 hM2 ht2 hlk hfk hsz
      go_wp2
      go_roundw
      case rel => exact HK.out.1
      case measure => exact HK.out.2
end
end Go.Proofs.Qxb6500357aGreat
