import Derived.Test.Qxb6500357aIxShow
import Derived.Test.Qxb6500357aSorted
namespace Go.Proofs.Qxb6500357a
open Go.RowKit Go.Tag
set_option linter.unusedVariables false
set_option linter.unusedSimpArgs false
set_option maxRecDepth 100000
attribute [local simp] str_size
attribute [local go_sem] str_size

theorem mk113 (n : Nat) (h : n ≤ 9) (w : World) : (Instr.makeMap 113 (some (.int .i64 (n : Int)))).run Try.prog w = .ok (.map (some w.heap.size)) (w.alloc (.map #[] 0)) := by
  rcases n with _ | _ | _ | _ | _ | _ | _ | _ | _ | _ | n <;> first | kernel_rfl | omega

/-- Query q over the index. -/
def QAt (w : World) (F : Nat → Prop) (y x : Nat) (s : St) : Prop := w.heap[y]? = some (.cells #[.pointer (some ⟨x, 0, none⟩)] 68) ∧ Both w F x s

/-- A set: nil or a map. -/
def SetV (w : World) (v : Value) (h : Int → Bool) : Prop := (v = .map none ∧ ∀ i, h i = false) ∨ ∃ b, v = .map (some b) ∧ MapFn w b kInt (setB h)
def SetPost (w : World) (h : Int → Bool) (e : Ending) (w' : World) : Prop := ∃ v, e = .returned v ∧ SetV w' v h ∧ Fr No w w'
/-- A set that is a map of the call's own. -/
def MapPost (w : World) (h : Int → Bool) (e : Ending) (w' : World) : Prop := ∃ b, e = .returned (.map (some b)) ∧ w.heap.size ≤ b ∧ MapFn w' b kInt (setB h) ∧ Fr No w w'

/-- h holds places 1 .. 9 alone. -/
def Nine (h : Int → Bool) : Prop := ∀ i, h i = true → 1 ≤ i ∧ i ≤ 9
def setL (h : Int → Bool) : List Int := idsAll.filter h
theorem setL_sorted (h : Int → Bool) : (setL h).Pairwise (· < ·) := List.Pairwise.sublist List.filter_sublist (by decide : idsAll.Pairwise (· < ·))
theorem setL_nodup (h : Int → Bool) : (setL h).Nodup := pw_to (setL_sorted h) (fun h e => by omega)
theorem setL_len (h : Int → Bool) : (setL h).length ≤ 9 := List.length_filter_le _ idsAll
theorem setL_mem {h : Int → Bool} (hn : Nine h) (k : Int) : k ∈ setL h ↔ (setB h k).isSome = true := by
  unfold setL setB
  rw [List.mem_filter, mem_idsAll]
  cases hk : h k with
  | false => simp
  | true => simp; exact hn k hk

/-- The first j of ks are in. -/
def poured (ks : List Int) (j : Nat) : Int → Bool := fun i => decide (i ∈ ks.take j)
theorem poured_succ (ks : List Int) (j : Nat) (h : j < ks.length) : setB (poured ks (j + 1)) = upd (setB (poured ks j)) ks[j] (some (.bool true)) := by
  funext i
  have hm : (i ∈ ks.take (j + 1)) ↔ (i ∈ ks.take j ∨ i = ks[j]) := by rw [take_snoc ks j h, List.mem_append, List.mem_singleton]
  unfold setB poured upd
  by_cases h1 : i = ks[j] <;> by_cases h2 : i ∈ ks.take j <;> simp_all
theorem poured_all {s : St} {B : Int} (hf : Fine s B) (u : Word) : poured (s.holders u) (s.holders u).length = hasOf s u := by
  funext i
  unfold poured
  rw [List.take_length]
  have := holders_mem hf u i
  cases hh : hasOf s u i <;> simp_all

section
variable (y x : Nat) (F : Nat → Prop) (s : St) (B : Int) (u : Word) (w : World)
set_option maxHeartbeats 1000000 in
theorem holders_any (h : QAt w F y x s) (hf : Fine s B) : Calls Try.prog 65 #[.pointer (some ⟨y, 0, none⟩), .string (str u)] w (MapPost w (hasOf s u)) := by
  have hr0 : w.cell? ⟨y, 0, none⟩ = some (.pointer (some ⟨x, 0, none⟩)) := by rw [cell_of_heap h.1]; rfl
  have HD : Hid (Calls Try.prog 60 #[.pointer (some ⟨x, 0, none⟩), .string (str u)] w (IntsPost w (s.holders u))) := docs_any x F s B u w h.2 hf
  have HA : Hid (poured (s.holders u) (s.holders u).length = hasOf s u) := poured_all hf u
  have hN : (s.holders u).length ≤ 9 := List.length_filter_le _ idsAll
  generalize s.holders u = ks at *
  obtain ⟨n, hn⟩ : ∃ n, ks.length = n := ⟨_, rfl⟩
  have HN : Hid (ks.length = n) := hn
  rw [hn] at hN HA
  have hmk := mk113 n hN
  clear hn h
  go_enter Try.func65, Try.ntmps65
  go_wp2_with (go_at_call 60; refine HD.out.mono ?_
               rintro e w1 ⟨v, rfl, hown, f1, -⟩
               obtain ⟨ao, cap, rfl, hcl⟩ := own_sl hown
               simp only [List.length_map, HN.out])
  have HM0 : Hid (MapFn (w1.alloc (.map #[] 0)) w1.heap.size kInt (setB (poured ks 0))) := (mapFn_new w1).congr (fun k => by simp [setB, poured])
  have HF0 : Hid (Fr No w w1) := f1
  clear hown f1
  go_loopw [20] (fun i wr => ∃ j : Nat, j ≤ n ∧ i = .int .i64 j ∧ MapFn wr w1.heap.size kInt (setB (poured ks j)) ∧ Fr No w1 wr) (fun i _ => n - (intOf i).toNat)
  case atStart => exact ⟨0, Nat.zero_le _, rfl, HM0.out, (Fr.refl _ _).alloc _⟩
  case round =>
    obtain ⟨j, hj, rfl, hM, hF⟩ := hrel
    by_cases hlt : j < n
    · have hjl : j < ks.length := by rw [HN.out]; exact hlt
      obtain ⟨g, off, rfl, hc0⟩ := hcl j (.int .i64 ks[j]) (by simp [hjl])
      have hc0 := frNo_cell hF hc0
      obtain ⟨w2, hu, hM2, ht2⟩ := hM.update' (P := Try.prog) (t := 113) keyInt Try.underlying113 ks[j] (.bool true)
      have HK : Hid (MapFn w2 w1.heap.size kInt (setB (poured ks (j + 1))) ∧ Fr No w1 w2) := ⟨by rw [poured_succ ks j hjl]; exact hM2, hF.trans' ht2.fr (fun i hi e => by omega)⟩
      simp only [kInt] at hu
      generalize ks[j] = kk at *
      clear hM hM2 ht2 hF hcl
      go_wp2
      go_roundw
      case rel => exact ⟨j + 1, by omega, by go_num, HK.out.1, HK.out.2⟩
      case measure => simp [intOf]; omega
    · have HE : Hid (MapPost w (hasOf s u) (.returned (.map (some w1.heap.size))) wr) := by
        have e : j = n := by omega
        rw [e, HA.out] at hM
        exact ⟨_, rfl, HF0.out.size, hM, HF0.out.trans hF⟩
      clear hM hF hcl
      go_wp2
      go_ret
      exact HE.out
end
end Go.Proofs.Qxb6500357a
