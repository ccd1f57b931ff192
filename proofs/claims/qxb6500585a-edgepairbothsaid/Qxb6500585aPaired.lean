import Derived.Test.Qxb6500585aPair
namespace Go.Proofs.Qxb6500585a
open Go.RowKit Go.CommN Go.Conc

theorem bcell {W w1 : World} (hb : Below W.heap.size W w1) : (∀ b o, b < W.heap.size → w1.cell? ⟨b, o, none⟩ = W.cell? ⟨b, o, none⟩) ∧ (∀ b o, b < W.heap.size → w1.frozen? ⟨b, o, none⟩ = W.frozen? ⟨b, o, none⟩) :=
  ⟨fun b o h => hb.cell (p := ⟨b, o, none⟩) h, fun b o h => hb.frozen (p := ⟨b, o, none⟩) h⟩

def PairedPost (w : World) (A B : List Int) (e : Ending) (w' : World) : Prop := ∃ o : List UInt8, Ord o A.length B.length ∧
  e = .returned (.agg #[.int .i64 0, .int .i64 ((A.length : Int) + B.length), .int .i64 (A.sum + B.sum), .string ⟨(hexs A ++ 59 :: (hexs B ++ 59 :: o)).toArray⟩]) ∧ Below w.heap.size w w'

set_option maxHeartbeats 1000000 in
theorem paired_any (m s t : Nat) (hs : s < 3) (ht : t < 3) (A B : List Int) (aoa aob : Option Addr) (capa capb : Nat) (w : World)
    (hA : A.length ≤ 6) (hB : B.length ≤ 6) (hAv : ∀ j, 0 ≤ A.getD j 0 ∧ A.getD j 0 ≤ 255) (hBv : ∀ j, 0 ≤ B.getD j 0 ∧ B.getD j 0 ≤ 255)
    (hcs : w.cell? ⟨m, s, none⟩ = some (.slice aoa A.length capa)) (hct : w.cell? ⟨m, t, none⟩ = some (.slice aob B.length capb))
    (ha : SliceAt w aoa A) (hb : SliceAt w aob B) :
    Calls Try.prog 26 #[.pointer (some ⟨m, 0, none⟩), .int .i64 s, .int .i64 t] w (PairedPost w A B) := by
  have hmw : m < w.heap.size := World.block_lt_of_cell? _ _ hcs
  go_enter Try.func26, Try.ntmps26
  go_wp2_with fail
  refine (pair_any m s t hs ht A B aoa aob capa capb _ hA hB hAv hBv ?_ ?_ ((ha.alloc _).alloc _) ((hb.alloc _).alloc _)).mono ?_
  · rw [World.cell?_alloc_lt _ _ _ (by simp; omega), World.cell?_alloc_lt _ _ _ (by simp; omega)]; exact hcs
  · rw [World.cell?_alloc_lt _ _ _ (by simp; omega), World.cell?_alloc_lt _ _ _ (by simp; omega)]; exact hct
  rintro e w1 ⟨o, hord, rfl, hbl⟩
  obtain ⟨hc, hf⟩ := bcell hbl
  have hz : w.heap.size + 1 < w1.heap.size := by have := hbl.size; simp at this; omega
  go_wp2
  have hB0 : Below w.heap.size w w1 := (((Below.refl _ _).alloc (Nat.le_refl _) _).alloc (by simp) _).trans (hbl.mono (by simp; omega))
  have k0 : w1.cell? ⟨w.heap.size, 0, none⟩ = some (.int .i64 0) := by rw [hc _ _ (by simp; omega)]; simp [go_sem]
  have k1 : w1.cell? ⟨w.heap.size, 1, none⟩ = some (.int .i64 0) := by rw [hc _ _ (by simp; omega)]; simp [go_sem]
  have k2 : w1.cell? ⟨w.heap.size, 2, none⟩ = some (.int .i64 0) := by rw [hc _ _ (by simp; omega)]; simp [go_sem]
  have k3 : w1.cell? ⟨w.heap.size, 3, none⟩ = some (.string ⟨#[]⟩) := by rw [hc _ _ (by simp; omega)]; simp [go_sem]
  refine bodyPost_ret (v := .agg #[.int .i64 0, .int .i64 ((A.length : Int) + B.length), .int .i64 (A.sum + B.sum), .string ⟨(hexs A ++ 59 :: (hexs B ++ 59 :: o)).toArray⟩]) (by simp [results, Try.results26, go_sem, k0, k1, k2, k3]) rfl ⟨o, hord, rfl, ?_⟩
  exact (((((((hB0.setCell (by simp) _).setCell (by simp) _).setCell (by simp) _).setCell (by simp) _).setCell (by simp) _).setCell (by simp) _).setCell (by simp) _).setCell (by simp) _
end Go.Proofs.Qxb6500585a
