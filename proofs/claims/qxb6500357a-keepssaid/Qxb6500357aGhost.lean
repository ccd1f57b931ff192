/- The law's ghost: how it lies in memory. -/
import Derived.Test.Qxb6500357aDo
import Derived.BigRegion
namespace Go.Tag
open Go.RowKit
set_option linter.unusedVariables false
set_option linter.unusedSimpArgs false

/-- Ten cells in a row. -/
def Row (w : World) (b : Nat) (f : Nat → Value) : Prop := ∃ (arr : Array Value) (ty : TypeId), w.heap[b]? = some (.cells arr ty) ∧ arr.size = 10 ∧ ∀ i, i < 10 → arr[i]? = some (f i)
def updN (f : Nat → Value) (i : Nat) (v : Value) : Nat → Value := fun j => if j = i then v else f j
theorem Row.lt {w : World} {b : Nat} {f : Nat → Value} (h : Row w b f) : b < w.heap.size := let ⟨_, _, h1, _⟩ := h; lt_of_heap h1
theorem Row.keep {w w' : World} {b : Nat} {f : Nat → Value} (h : Row w b f) (hb : w'.heap[b]? = w.heap[b]?) : Row w' b f := let ⟨a, t, h1, h2⟩ := h; ⟨a, t, hb.trans h1, h2⟩
theorem Row.fr {w w' : World} {b : Nat} {f : Nat → Value} (h : Row w b f) {S : Nat → Prop} (hf : Fr S w w') (hs : ¬ S b) : Row w' b f := h.keep (hf.block b h.lt hs)
theorem Row.cell {w : World} {b : Nat} {f : Nat → Value} (h : Row w b f) {i : Nat} (hi : i < 10) : w.cell? ⟨b, i, none⟩ = some (f i) := by
  obtain ⟨a, t, h1, h2, h3⟩ := h
  rw [cell_of_heap h1]; exact h3 i hi
theorem Row.frozen {w : World} {b : Nat} {f : Nat → Value} (h : Row w b f) (i : Nat) : w.frozen? ⟨b, i, none⟩ = false := by
  obtain ⟨a, t, h1, h2, h3⟩ := h
  exact frozen_of_heap h1 i
theorem Row.set {w : World} {b : Nat} {f : Nat → Value} (h : Row w b f) {i : Nat} (hi : i < 10) (v : Value) : Row (w.setCell ⟨b, i, none⟩ v) b (updN f i v) := by
  obtain ⟨a, t, h1, h2, h3⟩ := h
  refine ⟨_, t, heap_setCell_same h1 i v, by simpa using h2, fun j hj => ?_⟩
  unfold updN
  by_cases e : j = i
  · subst e; rw [if_pos rfl, Array.getElem?_setIfInBounds_self_of_lt (by omega)]
  · rw [if_neg e, Array.getElem?_setIfInBounds_ne (Ne.symm e)]; exact h3 j hj
theorem Row.congr {w : World} {b : Nat} {f g : Nat → Value} (h : Row w b f) (hg : ∀ i, i < 10 → g i = f i) : Row w b g := by
  obtain ⟨a, t, h1, h2, h3⟩ := h
  exact ⟨a, t, h1, h2, fun i hi => by rw [hg i hi]; exact h3 i hi⟩

def row10 (b : Nat) : Value := .slice (some ⟨b, 0, none⟩) 10 10
/-- The ghost's five blocks. -/
structure GhostR (w : World) (gb t0 g0 x0 p0 : Nat) (ft fg fx fp : Nat → Value) (n : Int) : Prop where
  root : w.heap[gb]? = some (.cells #[row10 t0, row10 g0, row10 x0, row10 p0, .int .i64 n] 50)
  there : Row w t0 ft
  group : Row w g0 fg
  text : Row w x0 fx
  puts : Row w p0 fp
  ne : gb ≠ t0 ∧ gb ≠ g0 ∧ gb ≠ x0 ∧ gb ≠ p0 ∧ t0 ≠ g0 ∧ t0 ≠ x0 ∧ t0 ≠ p0 ∧ g0 ≠ x0 ∧ g0 ≠ p0 ∧ x0 ≠ p0
def gOne (gb t0 g0 x0 p0 : Nat) (k : Nat) : Prop := k = gb ∨ k = t0 ∨ k = g0 ∨ k = x0 ∨ k = p0

section
variable {w w' : World} {gb t0 g0 x0 p0 : Nat} {ft fg fx fp : Nat → Value} {n : Int}
theorem GhostR.fr (h : GhostR w gb t0 g0 x0 p0 ft fg fx fp n) {S : Nat → Prop} (hf : Fr S w w') (hs : ∀ k, gOne gb t0 g0 x0 p0 k → ¬ S k) : GhostR w' gb t0 g0 x0 p0 ft fg fx fp n :=
  ⟨hf.heap h.root (hs _ (.inl rfl)), h.there.fr hf (hs _ (.inr (.inl rfl))), h.group.fr hf (hs _ (.inr (.inr (.inl rfl)))), h.text.fr hf (hs _ (.inr (.inr (.inr (.inl rfl))))), h.puts.fr hf (hs _ (.inr (.inr (.inr (.inr rfl))))), h.ne⟩
theorem GhostR.setT (h : GhostR w gb t0 g0 x0 p0 ft fg fx fp n) {i : Nat} (hi : i < 10) (v : Value) : GhostR (w.setCell ⟨t0, i, none⟩ v) gb t0 g0 x0 p0 (updN ft i v) fg fx fp n := by
  obtain ⟨n1, n2, n3, n4, n5, n6, n7, n8, n9, n10⟩ := h.ne
  have f : Fr (fun k => k = t0) w (w.setCell ⟨t0, i, none⟩ v) := (Fr.refl (fun k => k = t0) w).setCell (p := ⟨t0, i, none⟩) (.inr rfl) v
  exact ⟨f.heap h.root n1, h.there.set hi v, h.group.fr f (Ne.symm n5), h.text.fr f (Ne.symm n6), h.puts.fr f (Ne.symm n7), h.ne⟩
theorem GhostR.setG (h : GhostR w gb t0 g0 x0 p0 ft fg fx fp n) {i : Nat} (hi : i < 10) (v : Value) : GhostR (w.setCell ⟨g0, i, none⟩ v) gb t0 g0 x0 p0 ft (updN fg i v) fx fp n := by
  obtain ⟨n1, n2, n3, n4, n5, n6, n7, n8, n9, n10⟩ := h.ne
  have f : Fr (fun k => k = g0) w (w.setCell ⟨g0, i, none⟩ v) := (Fr.refl (fun k => k = g0) w).setCell (p := ⟨g0, i, none⟩) (.inr rfl) v
  exact ⟨f.heap h.root n2, h.there.fr f n5, h.group.set hi v, h.text.fr f (Ne.symm n8), h.puts.fr f (Ne.symm n9), h.ne⟩
theorem GhostR.setX (h : GhostR w gb t0 g0 x0 p0 ft fg fx fp n) {i : Nat} (hi : i < 10) (v : Value) : GhostR (w.setCell ⟨x0, i, none⟩ v) gb t0 g0 x0 p0 ft fg (updN fx i v) fp n := by
  obtain ⟨n1, n2, n3, n4, n5, n6, n7, n8, n9, n10⟩ := h.ne
  have f : Fr (fun k => k = x0) w (w.setCell ⟨x0, i, none⟩ v) := (Fr.refl (fun k => k = x0) w).setCell (p := ⟨x0, i, none⟩) (.inr rfl) v
  exact ⟨f.heap h.root n3, h.there.fr f n6, h.group.fr f n8, h.text.set hi v, h.puts.fr f (Ne.symm n10), h.ne⟩
theorem GhostR.setP (h : GhostR w gb t0 g0 x0 p0 ft fg fx fp n) {i : Nat} (hi : i < 10) (v : Value) : GhostR (w.setCell ⟨p0, i, none⟩ v) gb t0 g0 x0 p0 ft fg fx (updN fp i v) n := by
  obtain ⟨n1, n2, n3, n4, n5, n6, n7, n8, n9, n10⟩ := h.ne
  have f : Fr (fun k => k = p0) w (w.setCell ⟨p0, i, none⟩ v) := (Fr.refl (fun k => k = p0) w).setCell (p := ⟨p0, i, none⟩) (.inr rfl) v
  exact ⟨f.heap h.root n4, h.there.fr f n7, h.group.fr f n9, h.text.fr f n10, h.puts.set hi v, h.ne⟩
theorem GhostR.setN (h : GhostR w gb t0 g0 x0 p0 ft fg fx fp n) (m : Int) : GhostR (w.setCell ⟨gb, 4, none⟩ (.int .i64 m)) gb t0 g0 x0 p0 ft fg fx fp m := by
  obtain ⟨n1, n2, n3, n4, n5, n6, n7, n8, n9, n10⟩ := h.ne
  have f : Fr (fun k => k = gb) w (w.setCell ⟨gb, 4, none⟩ (.int .i64 m)) := (Fr.refl (fun k => k = gb) w).setCell (p := ⟨gb, 4, none⟩) (.inr rfl) _
  exact ⟨by rw [heap_setCell_same h.root]; rfl, h.there.fr f (Ne.symm n1), h.group.fr f (Ne.symm n2), h.text.fr f (Ne.symm n3), h.puts.fr f (Ne.symm n4), h.ne⟩
theorem GhostR.congr (h : GhostR w gb t0 g0 x0 p0 ft fg fx fp n) {ft' fg' fx' fp' : Nat → Value} {n' : Int} (h1 : ∀ i, i < 10 → ft' i = ft i) (h2 : ∀ i, i < 10 → fg' i = fg i) (h3 : ∀ i, i < 10 → fx' i = fx i) (h4 : ∀ i, i < 10 → fp' i = fp i) (h5 : n' = n) : GhostR w gb t0 g0 x0 p0 ft' fg' fx' fp' n' := by
  subst h5
  exact ⟨h.root, h.there.congr h1, h.group.congr h2, h.text.congr h3, h.puts.congr h4, h.ne⟩
theorem GhostR.cells (h : GhostR w gb t0 g0 x0 p0 ft fg fx fp n) : w.cell? ⟨gb, 0, none⟩ = some (.slice (some ⟨t0, 0, none⟩) 10 10) ∧ w.cell? ⟨gb, 1, none⟩ = some (.slice (some ⟨g0, 0, none⟩) 10 10) ∧ w.cell? ⟨gb, 2, none⟩ = some (.slice (some ⟨x0, 0, none⟩) 10 10) ∧ w.cell? ⟨gb, 3, none⟩ = some (.slice (some ⟨p0, 0, none⟩) 10 10) ∧ w.cell? ⟨gb, 4, none⟩ = some (.int .i64 n) := by
  refine ⟨?_, ?_, ?_, ?_, ?_⟩ <;> (rw [cell_of_heap h.root]; rfl)
theorem GhostR.lt (h : GhostR w gb t0 g0 x0 p0 ft fg fx fp n) : ∀ k, gOne gb t0 g0 x0 p0 k → k < w.heap.size := by
  rintro k (rfl | rfl | rfl | rfl | rfl)
  · exact lt_of_heap h.root
  · exact h.there.lt
  · exact h.group.lt
  · exact h.text.lt
  · exact h.puts.lt
end
def gT (s : St) (i : Nat) : Value := .bool (s.docs (i : Int)).isSome
def gG (s : St) (i : Nat) : Value := .int .i64 (s.groupOf (i : Int))
def gX (s : St) (i : Nat) : Value := .string (str (s.textOf (i : Int)))
def gP (s : St) (i : Nat) : Value := .int .i64 (s.revs (i : Int))
/-- The ghost tells s. -/
def GhostAt (w : World) (gb t0 g0 x0 p0 : Nat) (s : St) : Prop := GhostR w gb t0 g0 x0 p0 (gT s) (gG s) (gX s) (gP s) (s.ids.length : Int)
end Go.Tag
namespace Go.Proofs.Qxb6500357a
open Go.RowKit Go.Tag
set_option linter.unusedVariables false
set_option linter.unusedSimpArgs false
set_option maxRecDepth 100000
attribute [local simp] str_size
attribute [local go_sem] str_size

theorem row_new (w : World) (cs : Array Value) (ty : TypeId) (f : Nat → Value) (h : cs.size = 10) (hf : ∀ i, i < 10 → cs[i]? = some (f i)) : Row (w.alloc (.cells cs ty)) w.heap.size f := ⟨cs, ty, heap_alloc_new _ _, h, hf⟩

def falses10 : Array Value := Array.replicate 10 (.bool false)
def zeros10 : Array Value := Array.replicate 10 (.int .i64 0)
def strs10 : Array Value := Array.replicate 10 (.string (str []))
theorem mk10b (w : World) : (Instr.makeSlice 46 (.int .i64 10) (.int .i64 10)).run Try.prog w = .ok (row10 w.heap.size) (w.alloc (.cells falses10 4)) := by kernel_rfl
theorem mk10i (w : World) : (Instr.makeSlice 47 (.int .i64 10) (.int .i64 10)).run Try.prog w = .ok (row10 w.heap.size) (w.alloc (.cells zeros10 3)) := by kernel_rfl
theorem mk10s (w : World) : (Instr.makeSlice 48 (.int .i64 10) (.int .i64 10)).run Try.prog w = .ok (row10 w.heap.size) (w.alloc (.cells strs10 9)) := by kernel_rfl
theorem new5 (w : World) (a b c d o : Obj) :
    (((((w.alloc a).alloc b).alloc c).alloc d).alloc o).drew.heap[w.heap.size]? = some a ∧ (((((w.alloc a).alloc b).alloc c).alloc d).alloc o).drew.heap[w.heap.size + 1]? = some b ∧
    (((((w.alloc a).alloc b).alloc c).alloc d).alloc o).drew.heap[w.heap.size + 1 + 1]? = some c ∧ (((((w.alloc a).alloc b).alloc c).alloc d).alloc o).drew.heap[w.heap.size + 1 + 1 + 1]? = some d ∧
    (((((w.alloc a).alloc b).alloc c).alloc d).alloc o).drew.heap[w.heap.size + 1 + 1 + 1 + 1]? = some o ∧ Fr No w (((((w.alloc a).alloc b).alloc c).alloc d).alloc o).drew := by
  refine ⟨?_, ?_, ?_, ?_, ?_, (((((Fr.refl No w).alloc _).alloc _).alloc _).alloc _).alloc _ |>.drew⟩
  · show (((((w.alloc a).alloc b).alloc c).alloc d).alloc o).heap[w.heap.size]? = some a
    rw [Below.heap_alloc _ _ _ (by simp only [World.size_alloc]; omega), Below.heap_alloc _ _ _ (by simp only [World.size_alloc]; omega), Below.heap_alloc _ _ _ (by simp only [World.size_alloc]; omega), Below.heap_alloc _ _ _ (by simp only [World.size_alloc]; omega)]
    exact heap_alloc_new _ _
  · show (((((w.alloc a).alloc b).alloc c).alloc d).alloc o).heap[w.heap.size + 1]? = some b
    rw [Below.heap_alloc _ _ _ (by simp only [World.size_alloc]; omega), Below.heap_alloc _ _ _ (by simp only [World.size_alloc]; omega), Below.heap_alloc _ _ _ (by simp only [World.size_alloc]; omega)]
    have := heap_alloc_new (w.alloc a) b
    simp only [World.size_alloc] at this; exact this
  · show (((((w.alloc a).alloc b).alloc c).alloc d).alloc o).heap[w.heap.size + 1 + 1]? = some c
    rw [Below.heap_alloc _ _ _ (by simp only [World.size_alloc]; omega), Below.heap_alloc _ _ _ (by simp only [World.size_alloc]; omega)]
    have := heap_alloc_new ((w.alloc a).alloc b) c
    simp only [World.size_alloc] at this; exact this
  · show (((((w.alloc a).alloc b).alloc c).alloc d).alloc o).heap[w.heap.size + 1 + 1 + 1]? = some d
    rw [Below.heap_alloc _ _ _ (by simp only [World.size_alloc]; omega)]
    have := heap_alloc_new (((w.alloc a).alloc b).alloc c) d
    simp only [World.size_alloc] at this; exact this
  · show (((((w.alloc a).alloc b).alloc c).alloc d).alloc o).heap[w.heap.size + 1 + 1 + 1 + 1]? = some o
    have := heap_alloc_new ((((w.alloc a).alloc b).alloc c).alloc d) o
    simp only [World.size_alloc] at this; exact this
theorem rowB {w : World} {b : Nat} (h : w.heap[b]? = some (.cells falses10 4)) : Row w b (gT St.new) := ⟨_, _, h, rfl, fun i hi => by unfold falses10 gT; rw [Array.getElem?_replicate, if_pos hi]; rfl⟩
theorem rowI {w : World} {b : Nat} (h : w.heap[b]? = some (.cells zeros10 3)) : Row w b (gG St.new) := ⟨_, _, h, rfl, fun i hi => by unfold zeros10 gG; rw [Array.getElem?_replicate, if_pos hi]; rfl⟩
theorem rowP {w : World} {b : Nat} (h : w.heap[b]? = some (.cells zeros10 3)) : Row w b (gP St.new) := ⟨_, _, h, rfl, fun i hi => by unfold zeros10 gP; rw [Array.getElem?_replicate, if_pos hi]; rfl⟩
theorem rowS {w : World} {b : Nat} (h : w.heap[b]? = some (.cells strs10 9)) : Row w b (gX St.new) := ⟨_, _, h, rfl, fun i hi => by unfold strs10 gX; rw [Array.getElem?_replicate, if_pos hi]; rfl⟩

def NewPost (w : World) (e : Ending) (w' : World) : Prop := ∃ gb t0 g0 x0 p0, e = .returned (.pointer (some ⟨gb, 0, none⟩)) ∧ GhostAt w' gb t0 g0 x0 p0 St.new ∧ (∀ k, gOne gb t0 g0 x0 p0 k → w.heap.size ≤ k) ∧ Fr No w w'
set_option maxHeartbeats 4000000 in
theorem newGhost_any (w : World) : Calls Try.prog 12 #[] w (NewPost w) := by
  have m1 := mk10b
  have m2 := mk10i
  have m3 := mk10s
  simp only [row10] at m1 m2 m3
  go_enter Try.func12, Try.ntmps12
  go_wp2
  go_region
  all_goals
    clear m1 m2 m3
    go_wp2
    go_ret
    obtain ⟨h0, h1, h2, h3, h4, f⟩ := new5 w _ _ _ _ _
    refine ⟨_, _, _, _, _, rfl, ⟨h4, ?_, ?_, ?_, ?_, ?_⟩, ?_, f⟩
    · first | exact rowB h0 | exact rowB h1 | exact rowB h2 | exact rowB h3
    · first | exact rowI h0 | exact rowI h1 | exact rowI h2 | exact rowI h3
    · first | exact rowS h0 | exact rowS h1 | exact rowS h2 | exact rowS h3
    · first | exact rowP h0 | exact rowP h1 | exact rowP h2 | exact rowP h3
    · refine ⟨?_, ?_, ?_, ?_, ?_, ?_, ?_, ?_, ?_, ?_⟩ <;> omega
    · rintro k (rfl | rfl | rfl | rfl | rfl) <;> omega
end Go.Proofs.Qxb6500357a
