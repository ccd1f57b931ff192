/- The script: how it comes in. -/
import Derived.Test.Qxb6500357aDo
import Derived.Deep.Slices
import Derived.OpenShut
namespace Go.Proofs.Qxb6500357a
open Go.RowKit Go.Tag Go.Deep
set_option linter.unusedVariables false
set_option linter.unusedSimpArgs false
set_option maxRecDepth 100000

/-- The slice v holds the n steps os. -/
def ScriptAt (w : World) (v : Value) (n : Nat) (os : Nat → Op) : Prop :=
  ∃ ao cap, v = .slice ao n cap ∧ n ≤ maxLen ∧ ∀ i, i < n → ∃ b off, ao = some ⟨b, off, none⟩ ∧ w.cell? ⟨b, off + i * 6, none⟩ = some (.int .i64 (os i).k) ∧ w.cell? ⟨b, off + i * 6 + 1, none⟩ = some (.int .i64 (os i).a) ∧ w.cell? ⟨b, off + i * 6 + 2, none⟩ = some (.int .i64 (os i).b) ∧ w.cell? ⟨b, off + i * 6 + 3, none⟩ = some (.int .i64 (os i).c) ∧ w.cell? ⟨b, off + i * 6 + 4, none⟩ = some (.string (str (os i).s)) ∧ w.cell? ⟨b, off + i * 6 + 5, none⟩ = some (.string (str (os i).t))

theorem cells39 : Try.prog.cellsOf 39 = 6 := by kernel_rfl
theorem cells3' : Try.prog.cellsOf 3 = 1 := by kernel_rfl
theorem cells9' : Try.prog.cellsOf 9 = 1 := by kernel_rfl

theorem one_op {H : Type} {enc : TypeId × Value → H} {w : World} {base : Nat} {spare : Nat → Bool} {held : Bool} {n : Nat} {cs : List Value} {x : DataW H × List MemPlace} (hl : cs.length = 6) (h : DataW.trod enc Try.prog w base spare held n 39 cs = some x) :
    ∃ o : Op, cs = [.int .i64 o.k, .int .i64 o.a, .int .i64 o.b, .int .i64 o.c, .string (str o.s), .string (str o.t)] := by
  obtain ⟨xs, m, _, _, _, hxl, hf⟩ := DataW.trod_struct Try.underlying39 h
  match cs, hl, xs, hxl with
  | [v0, v1, v2, v3, v4, v5], _, [y0, y1, y2, y3, y4, y5], _ =>
    have g0 := hf 0 _ rfl
    have g1 := hf 1 _ rfl
    have g2 := hf 2 _ rfl
    have g3 := hf 3 _ rfl
    have g4 := hf 4 _ rfl
    have g5 := hf 5 _ rfl
    simp [cells3', cells9'] at g0 g1 g2 g3 g4 g5
    obtain ⟨k, e0, -⟩ := DataW.trod_int Try.underlying3 g0
    obtain ⟨a, e1, -⟩ := DataW.trod_int Try.underlying3 g1
    obtain ⟨b, e2, -⟩ := DataW.trod_int Try.underlying3 g2
    obtain ⟨c, e3, -⟩ := DataW.trod_int Try.underlying3 g3
    obtain ⟨s, e4, -⟩ := DataW.trod_string Try.underlying9 g4
    obtain ⟨t, e5, -⟩ := DataW.trod_string Try.underlying9 g5
    obtain ⟨s', rfl⟩ := str_of s
    obtain ⟨t', rfl⟩ := str_of t
    simp only [List.cons.injEq, and_true] at e0 e1 e2 e3 e4 e5
    exact ⟨⟨k, a, b, c, s', t'⟩, by rw [e0, e1, e2, e3, e4, e5]⟩

theorem open_script {H : Type} {enc : TypeId × Value → H} {w : World} {spare : Nat → Bool} {held : Bool} {fuel : Nat} {v : Value} {x : DataW H × List MemPlace} (h : DataW.trod enc Try.prog w 0 spare held fuel 22 [v] = some x) : ∃ n os, ScriptAt w v n os := by
  rcases open_slice Try.underlying22 h with ⟨hcs, _⟩ | ⟨a, len, cap, m, n, D, Pl, hcs, hb, hl, hm, hmm, _, hx⟩
  · simp only [List.cons.injEq, and_true] at hcs
    subst hcs
    exact ⟨0, fun _ => ⟨0, 0, 0, 0, [], []⟩, none, 0, rfl, Nat.zero_le _, fun i hi => absurd hi (Nat.not_lt_zero _)⟩
  · simp only [List.cons.injEq, and_true] at hcs
    subst hcs
    have hlm : len ≤ m := by rw [hmm]; split <;> omega
    obtain ⟨os, hos⟩ := @choose_lt Op ⟨⟨0, 0, 0, 0, [], []⟩⟩ len (fun i o => ∃ b off, some a = some (⟨b, off, none⟩ : Addr) ∧ w.cell? ⟨b, off + i * 6, none⟩ = some (.int .i64 o.k) ∧ w.cell? ⟨b, off + i * 6 + 1, none⟩ = some (.int .i64 o.a) ∧ w.cell? ⟨b, off + i * 6 + 2, none⟩ = some (.int .i64 o.b) ∧ w.cell? ⟨b, off + i * 6 + 3, none⟩ = some (.int .i64 o.c) ∧ w.cell? ⟨b, off + i * 6 + 4, none⟩ = some (.string (str o.s)) ∧ w.cell? ⟨b, off + i * 6 + 5, none⟩ = some (.string (str o.t))) (fun i hi => by
      obtain ⟨cs', h1, h2⟩ := hx i (by omega)
      obtain ⟨cs0, k1, k2⟩ := hx 0 (by omega)
      rw [cells39] at h1 k1
      obtain ⟨_, hlen, hcell⟩ := World.cells?_some h1
      obtain ⟨_, hlen0, hcell0⟩ := World.cells?_some k1
      obtain ⟨o, rfl⟩ := one_op hlen h2
      obtain ⟨o0, rfl⟩ := one_op hlen0 k2
      have hsp : a.spot = none := by
        have := hcell0 0 (by omega)
        simp [Addr.add] at this
        exact World.cell?_spot this
      obtain ⟨b, off, spot⟩ := a
      simp only at hsp
      subst hsp
      refine ⟨o, b, off, rfl, ?_⟩
      have e : ∀ j, j < 6 → w.cell? ⟨b, off + i * 6 + j, none⟩ = [Value.int .i64 o.k, .int .i64 o.a, .int .i64 o.b, .int .i64 o.c, .string (str o.s), .string (str o.t)][j]? := fun j hj => by
        have := hcell j hj
        rw [Go.WideShapes.add_plain, Go.WideShapes.add_plain] at this
        exact this
      exact ⟨e 0 (by omega), e 1 (by omega), e 2 (by omega), e 3 (by omega), e 4 (by omega), e 5 (by omega)⟩)
    exact ⟨len, os, some a, cap, rfl, by omega, hos⟩
theorem ScriptAt.fr {w w' : World} {v : Value} {n : Nat} {os : Nat → Op} (h : ScriptAt w v n os) (f : Fr No w w') : ScriptAt w' v n os := by
  obtain ⟨ao, cap, h1, hm, h2⟩ := h
  refine ⟨ao, cap, h1, hm, fun i hi => ?_⟩
  obtain ⟨b, off, e, c0, c1, c2, c3, c4, c5⟩ := h2 i hi
  exact ⟨b, off, e, f.cell c0 (fun h => h), f.cell c1 (fun h => h), f.cell c2 (fun h => h), f.cell c3 (fun h => h), f.cell c4 (fun h => h), f.cell c5 (fun h => h)⟩
end Go.Proofs.Qxb6500357a
