import Derived.Test.Qxb6500585aPaired
import Derived.ProofKit
import Derived.OpenShut
import Derived.ShutString
namespace Go.Proofs.Qxb6500585a
open Go.RowKit Go.CommN Go.Conc

theorem ord_all0 {o : List UInt8} {n : Nat} (h : Ord o n 0) : o = List.replicate n 48 := by
  obtain ⟨h1, h2, _⟩ := h
  rw [List.eq_replicate_iff]
  refine ⟨by omega, ?_⟩
  have : o.count 48 = o.length := by omega
  intro b hb
  exact (List.count_eq_length.1 this b hb).symm
theorem ord_all1 {o : List UInt8} {n : Nat} (h : Ord o 0 n) : o = List.replicate n 49 := by
  obtain ⟨h1, h2, h3⟩ := h
  rw [List.eq_replicate_iff]
  refine ⟨by omega, ?_⟩
  intro b hb
  rcases h3 b hb with e | e
  · subst e; exact absurd hb (List.count_eq_zero.1 h2)
  · exact e

def lA : List Int := [97, 98, 99, 100, 101, 102]
def lB : List Int := [103, 104, 105, 106, 107, 108]
def lC : List Int := [109, 110, 111, 112, 113, 114]
def six (l : List Int) : Obj := .cells (ints l).toArray 3
theorem bd_of (l : List Int) (h : l.all (fun v => 0 ≤ v && v ≤ 255) = true) : ∀ j, 0 ≤ l.getD j 0 ∧ l.getD j 0 ≤ 255 := by
  intro j
  by_cases hj : j < l.length
  · have := List.all_eq_true.1 h l[j] (List.getElem_mem hj)
    simpa [List.getD, hj] using this
  · simp [List.getD, hj]
theorem slice_of (W : World) (g : Nat) (l : List Int) (h : W.heap[g]? = some (six l)) : SliceAt W (some ⟨g, 0, none⟩) l := by
  intro j hj
  refine ⟨g, 0, rfl, ?_⟩
  simp only [World.cell?, h, six]
  simp [ints, List.getD, hj]
theorem slice_none (W : World) : SliceAt W none [] := fun j hj => by simp at hj

/-- The merger's cells: block m. -/
def muxRow (a b c d : Value) : Obj := .cells #[a, b, c, d] 48

theorem load_at (m s : Nat) (si : Int) (hsi : si = (s : Int)) (hs : s < 3) (b0 b1 b2 b3 b4 b5 : UInt8) (a b c d : Value) (w : World) (hm : w.heap[m]? = some (muxRow a b c d)) :
    Calls Try.prog 18 #[.pointer (some ⟨m, 0, none⟩), .int .i64 si, .string ⟨#[b0, b1, b2, b3, b4, b5]⟩] w fun e w' => e = .returned (.int .i64 0) ∧
      w'.heap[m]? = some (.cells (#[a, b, c, d].setIfInBounds s (.slice (some ⟨w.heap.size, 0, none⟩) 6 6)) 48) ∧ w'.heap[w.heap.size]? = some (six [b0.toNat, b1.toNat, b2.toNat, b3.toNat, b4.toNat, b5.toNat]) ∧
      w'.heap.size = w.heap.size + 1 ∧ (∀ k, k ≠ m → k < w.heap.size → w'.heap[k]? = w.heap[k]?) ∧ w'.os = w.os ∧ w'.tape = w.tape ∧ w'.output = w.output := by
  subst hsi
  have hmw : m < w.heap.size := by
    rcases Nat.lt_or_ge m w.heap.size with h | h
    · exact h
    · simp [Array.getElem?_eq_none h] at hm
  have hcell : ∃ u, w.cell? ⟨m, s, none⟩ = some u := by
    simp only [World.cell?, hm, muxRow]
    rcases s with _ | _ | _ | s <;> first | exact ⟨_, rfl⟩ | omega
  obtain ⟨u, hu⟩ := hcell
  refine (load_any m s hs b0 b1 b2 b3 b4 b5 u w hu (by simp [World.frozen?, hm, muxRow]) hmw).mono ?_
  rintro e w' ⟨rfl, rfl⟩
  refine ⟨rfl, ?_, ?_, by simp, ?_, rfl, rfl, rfl⟩
  · rw [Below.heap_alloc _ _ _ (by simpa using hmw)]
    exact heap_setCell_same w m s #[a, b, c, d] 48 _ hm
  · have := heap_alloc_new (w.setCell ⟨m, s, none⟩ (.slice (some ⟨w.heap.size, 0, none⟩) 6 6)) (six [(b0.toNat : Int), b1.toNat, b2.toNat, b3.toNat, b4.toNat, b5.toNat])
    rw [World.size_setCell] at this
    exact this
  · intro k hk hkw
    rw [Below.heap_alloc _ _ _ (by simpa using hkw), Below.heap_setCell _ _ _ _ hk]
theorem new_at (w : World) : Calls Try.prog 17 #[] w fun e w' => e = .returned (.pointer (some ⟨w.heap.size + 1, 0, none⟩)) ∧
    w'.heap[w.heap.size + 1]? = some (muxRow (.slice none 0 0) (.slice none 0 0) (.slice none 0 0) (.chan (some w.heap.size))) ∧ w'.heap.size = w.heap.size + 2 ∧ Below w.heap.size w w' := by
  refine (new_any w).mono ?_
  rintro e w' ⟨rfl, rfl⟩
  refine ⟨rfl, ?_, by simp [newWorld], ((Below.refl _ _).alloc (Nat.le_refl _) _).alloc (by simp) _⟩
  have := heap_alloc_new (w.alloc (.chan 4 #[] false 0 0 false)) (muxRow (.slice none 0 0) (.slice none 0 0) (.slice none 0 0) (.chan (some w.heap.size)))
  rw [World.size_alloc] at this
  exact this

theorem paired_at (m s t : Nat) (si ti : Int) (hsi : si = (s : Int)) (hti : ti = (t : Int)) (hs : s < 3) (ht : t < 3) (A B : List Int) (aoa aob : Option Addr) (capa capb : Nat) (w : World)
    (hA : A.length ≤ 6) (hB : B.length ≤ 6) (hAv : ∀ j, 0 ≤ A.getD j 0 ∧ A.getD j 0 ≤ 255) (hBv : ∀ j, 0 ≤ B.getD j 0 ∧ B.getD j 0 ≤ 255)
    (hcs : w.cell? ⟨m, s, none⟩ = some (.slice aoa A.length capa)) (hct : w.cell? ⟨m, t, none⟩ = some (.slice aob B.length capb))
    (ha : SliceAt w aoa A) (hb : SliceAt w aob B) :
    Calls Try.prog 26 #[.pointer (some ⟨m, 0, none⟩), .int .i64 si, .int .i64 ti] w (PairedPost w A B) := by
  subst hsi; subst hti
  exact paired_any m s t hs ht A B aoa aob capa capb w hA hB hAv hBv hcs hct ha hb

set_option maxHeartbeats 1000000 in
theorem lone_walk (w : World) : Calls Try.prog 8 #[] w fun e w' => e = .returned (.bool true) ∧ Below w.heap.size w w' := by
  go_enter Try.func8, Try.ntmps8
  go_wp2_with fail
  refine (new_at _).mono ?_
  rintro e w0 ⟨rfl, hm0, hs0, hb0⟩
  go_wp2_with fail
  refine (load_at (w.heap.size + 1) 0 0 rfl (by omega) 97 98 99 100 101 102 _ _ _ _ w0 hm0).mono ?_
  rintro e w1 ⟨rfl, hm1, hl1, hs1, hk1, ho1, ht1, hp1⟩
  rw [hs0] at hl1 hs1 hm1
  have hb1 : Below w.heap.size w w1 := hb0.trans ⟨ho1, ht1, hp1, by omega, fun k hk => hk1 k (by omega) (by omega)⟩
  replace hm1 : w1.heap[w.heap.size + 1]? = some (muxRow (.slice (some ⟨w.heap.size + 2, 0, none⟩) 6 6) (.slice none 0 0) (.slice none 0 0) (.chan (some w.heap.size))) := hm1
  replace hl1 : w1.heap[w.heap.size + 2]? = some (six lA) := hl1
  clear hk1 ho1 ht1 hp1 hm0 hb0
  go_wp2_with fail
  refine (paired_at (w.heap.size + 1) 0 1 0 1 rfl rfl (by omega) (by omega) lA [] (some ⟨w.heap.size + 2, 0, none⟩) none 6 0 w1 (by decide) (by decide) (bd_of _ (by decide)) (bd_of _ (by decide)) (by simp [World.cell?, hm1, muxRow]; rfl) (by simp [World.cell?, hm1, muxRow]) (slice_of _ _ _ hl1) (slice_none _)).mono ?_
  rintro e w2 ⟨o, hord, rfl, hb2⟩
  have hv : (Value.agg #[.int .i64 0, .int .i64 ((lA.length : Int) + ([] : List Int).length), .int .i64 (lA.sum + ([] : List Int).sum), .string ⟨(hexs lA ++ 59 :: (hexs [] ++ 59 :: o)).toArray⟩]) =
      .agg #[.int .i64 0, .int .i64 6, .int .i64 597, .string ⟨#[54, 49, 54, 50, 54, 51, 54, 52, 54, 53, 54, 54, 59, 59, 48, 48, 48, 48, 48, 48]⟩] := by
    rw [ord_all0 hord]; rfl
  rw [hv]
  clear hv hord o
  have hm2 : w2.heap[w.heap.size + 1]? = _ := (hb2.block (w.heap.size + 1) (by omega)).trans hm1
  have hl2 : w2.heap[w.heap.size + 2]? = _ := (hb2.block (w.heap.size + 2) (by omega)).trans hl1
  have hs2 : w.heap.size + 2 < w2.heap.size := by have := hb2.size; omega
  have hb2' : Below w.heap.size w w2 := hb1.trans (hb2.mono (by omega))
  clear hb2 hb1 hm1 hl1 hs1 hs0
  go_wp2_with fail
  refine (paired_at (w.heap.size + 1) 1 0 1 0 rfl rfl (by omega) (by omega) [] lA none (some ⟨w.heap.size + 2, 0, none⟩) 0 6 _ (by decide) (by decide) (bd_of _ (by decide)) (bd_of _ (by decide)) ?_ ?_ (slice_none _) (slice_of _ _ _ ?_)).mono ?_
  · rw [World.cell?_alloc_lt _ _ _ (by simp; omega)]; simp [World.cell?, hm2, muxRow]
  · rw [World.cell?_alloc_lt _ _ _ (by simp; omega)]; simp [World.cell?, hm2, muxRow]; rfl
  · rw [Below.heap_alloc _ _ _ (by omega)]; exact hl2
  rintro e w3 ⟨o, hord, rfl, hb3⟩
  have hv : (Value.agg #[.int .i64 0, .int .i64 ((([] : List Int).length : Int) + lA.length), .int .i64 (([] : List Int).sum + lA.sum), .string ⟨(hexs [] ++ 59 :: (hexs lA ++ 59 :: o)).toArray⟩]) =
      .agg #[.int .i64 0, .int .i64 6, .int .i64 597, .string ⟨#[59, 54, 49, 54, 50, 54, 51, 54, 52, 54, 53, 54, 54, 59, 49, 49, 49, 49, 49, 49]⟩] := by
    rw [ord_all1 hord]; rfl
  rw [hv]
  clear hv hord o
  obtain ⟨hc, hf⟩ := bcell hb3
  have k0 : w3.cell? ⟨w2.heap.size, 0, none⟩ = some (.int .i64 0) := by rw [hc _ _ (by simp)]; simp
  have k1 : w3.cell? ⟨w2.heap.size, 1, none⟩ = some (.int .i64 6) := by rw [hc _ _ (by simp)]; simp
  have k2 : w3.cell? ⟨w2.heap.size, 2, none⟩ = some (.int .i64 597) := by rw [hc _ _ (by simp)]; simp
  have k3 : w3.cell? ⟨w2.heap.size, 3, none⟩ = some (.string ⟨#[54, 49, 54, 50, 54, 51, 54, 52, 54, 53, 54, 54, 59, 59, 48, 48, 48, 48, 48, 48]⟩) := by rw [hc _ _ (by simp)]; simp
  have hs3 : w2.heap.size < w3.heap.size := by have := hb3.size; simp at this; omega
  have hb4 : Below w.heap.size w w3 := (hb2'.alloc (by omega) _).trans (hb3.mono (by simp; omega))
  clear hb3 hb2' hc hf hm2 hl2
  go_wp2
  go_ret
  exact ⟨rfl, hb4.alloc (by omega) _⟩

end Go.Proofs.Qxb6500585a
