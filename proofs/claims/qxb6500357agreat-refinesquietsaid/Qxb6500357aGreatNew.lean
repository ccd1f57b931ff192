import Derived.Test.Qxb6500357aGreatLaw2
import Derived.Test.Qxb6500357aGreatIxPut2
namespace Go.Proofs.Qxb6500357aGreat
open Go.RowKit Go.Tag
variable {st0 : Nat}
set_option linter.unusedVariables false
set_option linter.unusedSimpArgs false
set_option maxRecDepth 100000
attribute [local simp] str_size
attribute [local go_sem] str_size

theorem hasOf_new : hasOf St.new = fun _ _ => false := by funext u i; rfl
theorem cntW_false (u : Word) : cntW (fun _ _ => false) u = 0 := by unfold cntW; simp
theorem cntBy_false (g : Int → Int) (k : Int × Word) : cntBy (fun _ _ => false) g k = 0 := by unfold cntBy; simp

theorem ixNew_any (b : Nat) (w : World) : Calls Tryz.prog 18 #[.pointer (some ⟨b, 0, none⟩)] w fun e w' => ∃ x bi bb q, e = .returned (.pointer (some ⟨x, 0, none⟩)) ∧ IndexAt w' (Since w w') x b bi bb (hasOf St.new) St.new.groupOf q ∧ Fr No w w' := by
  have hmm := @run_makeMap Tryz.prog
  go_enter Tryz.func18, Tryz.ntmps18
  go_wp2
  go_ret
  refine ⟨w.heap.size + 1 + 1, w.heap.size, w.heap.size + 1, fun _ => 0, rfl, ?_, (((Fr.refl _ _).alloc _).alloc _).alloc _⟩
  rw [hasOf_new]
  refine ⟨?_, ?_, fun u hu => absurd (cntW_false u) hu, fun u v hu => absurd (cntW_false u) hu, ?_, ⟨by omega, fun u hu => absurd (cntW_false u) hu⟩, by simp, ?_⟩
  · have := heap_alloc_new ((w.alloc (.map #[] 0)).alloc (.map #[] 0)) (.cells #[.pointer (some ⟨b, 0, none⟩), .map (some w.heap.size), .map (some (w.heap.size + 1))] 74)
    simp only [World.size_alloc] at this
    exact this
  · refine ((mapFn_new w).congr (g := fInv (fun _ _ => false) fun _ => 0) (fun u => by unfold fInv; rw [if_pos (cntW_false u)])).keep ?_
    rw [Below.heap_alloc _ _ _ (by simp; omega), Below.heap_alloc _ _ _ (by simp)]
  · have := mapFn_new (ke := kPair) (w.alloc (.map #[] 0))
    simp only [World.size_alloc] at this
    refine (this.congr (g := fBy (fun _ _ => false) St.new.groupOf) (fun k => by unfold fBy; rw [if_pos (cntBy_false _ k)])).keep ?_
    rw [Below.heap_alloc _ _ _ (by simp)]
  · refine ⟨?_, ?_, ?_, fun u hu => absurd (cntW_false u) hu⟩ <;> simp [Since] <;> omega
theorem qNew_any (x : Nat) (w : World) : Calls Tryz.prog 19 #[.pointer (some ⟨x, 0, none⟩)] w fun e w' => e = .returned (.pointer (some ⟨w.heap.size, 0, none⟩)) ∧ w' = w.alloc (.cells #[.pointer (some ⟨x, 0, none⟩)] 70) := by
  go_enter Tryz.func19, Tryz.ntmps19
  go_wp2
  go_ret
  exact ⟨rfl, rfl⟩

/-- A tower at z: its face y, its index x, its store b. -/
structure TowerAt (st0 : Nat) (w : World) (F : Nat → Prop) (z y x b : Nat) (s : St) : Prop where
  root : w.heap[z]? = some (.cells #[.pointer (some ⟨b, 0, none⟩), .pointer (some ⟨x, 0, none⟩), .pointer (some ⟨y, 0, none⟩)] 33)
  q : QAt st0 w F y x s
  ne : ¬ F z ∧ ¬ F y

set_option maxHeartbeats 400000 in
theorem towerNew_any (w : World) : Calls Tryz.prog 8 #[] w fun e w' => ∃ z y x b F, e = .returned (.pointer (some ⟨z, 0, none⟩)) ∧ TowerAt b w' F z y x b St.new ∧ (∀ k, F k → Since w w' k) ∧ w.heap.size ≤ z ∧ w.heap.size ≤ y ∧ Fr No w w' := by
  go_enter Tryz.func8, Tryz.ntmps8
  go_wp2_with first
    | (go_at_call 17; refine (storeNew_any _).mono ?_; rintro e w1 ⟨b, bd, br, bg, p, rfl, hS, f1⟩)
    | (go_at_call 18; refine (ixNew_any _ _).mono ?_; rintro e w2 ⟨x, bi, bb, q, rfl, hX, f2⟩)
    | (go_at_call 19; refine (qNew_any _ _).mono ?_; rintro e w3 ⟨rfl, rfl⟩)
  go_ret
  have h1 := f1.size
  have h2 := f2.size
  refine ⟨w2.heap.size + 1, w2.heap.size, x, b, fun k => Since w w1 k ∨ Since w1 w2 k, by simp, ⟨?_, ⟨?_, ?_⟩, ?_⟩, ?_, by omega, by omega, ((f1.trans f2).alloc _).alloc _⟩
  · have := heap_alloc_new (w2.alloc (.cells #[.pointer (some ⟨x, 0, none⟩)] 70)) (.cells #[.pointer (some ⟨b, 0, none⟩), .pointer (some ⟨x, 0, none⟩), .pointer (some ⟨w2.heap.size, 0, none⟩)] 33)
    simp only [World.size_alloc] at this
    exact this
  · rw [Below.heap_alloc _ _ _ (by simp)]; exact heap_alloc_new _ _
  · have f3 : Fr No w2 ((w2.alloc (.cells #[.pointer (some ⟨x, 0, none⟩)] 70)).alloc (.cells #[.pointer (some ⟨b, 0, none⟩), .pointer (some ⟨x, 0, none⟩), .pointer (some ⟨w2.heap.size, 0, none⟩)] 33)) := ((Fr.refl _ _).alloc _).alloc _
    refine ⟨b, bd, br, bg, p, bi, bb, q, Since w w1, Since w1 w2, ⟨hS.fr (f2.trans f3) (fun _ _ h => h), hX.fr f3 (fun _ _ h => h), ?_, ?_, ?_, rfl⟩, fun k hk => hk⟩
    · intro k hk e; have := hk.2; have := e.1; omega
    · intro k hk; have := hk.2; simp; omega
    · intro k hk; have := hk.2; simp; omega
  · constructor <;> rintro (e | e) <;> (have := e.2; omega)
  · rintro k (e | e)
    · exact ⟨e.1, by have := e.2; simp; omega⟩
    · exact ⟨by have := e.1; omega, by have := e.2; simp; omega⟩

section
variable (y x : Nat) (F : Nat → Prop) (s : St) (B : Int) (w : World)
theorem qShow_any (h : QAt st0 w F y x s) (hf : Fine s B) (hB : B < 1000000000000000000) : Calls Tryz.prog 13 #[.pointer (some ⟨y, 0, none⟩)] w (StrPost w (ixShow s)) := by
  have hr0 : w.cell? ⟨y, 0, none⟩ = some (.pointer (some ⟨x, 0, none⟩)) := by rw [cell_of_heap h.1]; rfl
  have HC : Hid (Calls Tryz.prog 15 #[.pointer (some ⟨x, 0, none⟩)] w (StrPost w (ixShow s))) := ixShow_any x F s B w h.2 hf hB
  clear h hf hB
  go_enter Tryz.func13, Tryz.ntmps13
  go_wp2_with (go_at_call 15; refine HC.out.mono ?_; rintro e w1 ⟨rfl, f1⟩)
  go_ret
  exact ⟨rfl, f1⟩
theorem qPut_any (id g : Int) (t : List UInt8) (h : QAt st0 w F y x s) (hf : Fine s B) (hB : B < 1000000000000000000) : Calls Tryz.prog 21 #[.pointer (some ⟨y, 0, none⟩), .int .i64 id, .int .i64 g, .string (str t)] w (TurnPost st0 w F x (s.putErr id g t) (s.putR id g t)) := by
  by_cases ht : 12 < t.length
  · have hE : s.putErr id g t = 1 := by unfold St.putErr; rw [if_pos ht]
    have HZ : Hid (TurnPost st0 w F x (s.putErr id g t) (s.putR id g t) (.returned (.int .i64 1)) w) := by
      have : s.putR id g t = s := by unfold St.putR; rw [if_neg (by rw [hE]; decide)]
      rw [this, hE]; exact turn_keep h.2 (Fr.refl _ _)
    have hd : decide ((12 : Int) < (t.length : Int)) = true := by simp; omega
    clear hE
    go_enter Tryz.func21, Tryz.ntmps21
    go_wp2
    go_ret
    exact HZ.out
  · have hd : decide ((12 : Int) < (t.length : Int)) = false := by simp; omega
    have hr0 : w.cell? ⟨y, 0, none⟩ = some (.pointer (some ⟨x, 0, none⟩)) := by rw [cell_of_heap h.1]; rfl
    have HC : Hid (Calls Tryz.prog 50 #[.pointer (some ⟨x, 0, none⟩), .int .i64 id, .int .i64 g, .string (str t)] w (TurnPost st0 w F x (s.putErr id g t) (s.putR id g t))) := ixPut_any x F s B id g t w h.2 hf hB
    clear h hf hB
    go_enter Tryz.func21, Tryz.ntmps21
    go_wp2_with (go_at_call 50; refine HC.out.mono ?_; rintro e w1 ⟨rfl, h1, h2⟩)
    go_ret
    exact ⟨rfl, h1, h2⟩
end
end Go.Proofs.Qxb6500357aGreat
