import Derived.Test.Qxb6500357aGreatGroups
namespace Go.Proofs.Qxb6500357aGreat
open Go.RowKit Go.Tag
set_option linter.unusedVariables false
set_option linter.unusedSimpArgs false
set_option maxRecDepth 100000
attribute [local simp] str_size
attribute [local go_sem] str_size

/-- Does a go before b: the higher count; among equals the lower word. -/
def aheadC (c : Word → Nat) (a b : Word) : Bool := if c a = c b then decide (a < b) else decide (c b < c a)
theorem ahead_irr (c : Word → Nat) (a : Word) : ¬ aheadC c a a = true := by unfold aheadC; simp [wlt_irr a]
theorem ahead_as (c : Word → Nat) (a b : Word) (h : aheadC c a b = true) : ¬ aheadC c b a = true := by
  unfold aheadC at h ⊢
  by_cases e : c a = c b
  · rw [if_pos e] at h; rw [if_pos e.symm]; simp at h ⊢; exact wlt_as _ _ h
  · rw [if_neg e] at h; rw [if_neg (Ne.symm e)]; simp at h ⊢; omega
theorem ahead_tr (c : Word → Nat) (a b d : Word) (h : aheadC c a b = true) (h' : aheadC c b d = true) : aheadC c a d = true := by
  unfold aheadC at h h' ⊢
  by_cases e : c a = c b <;> by_cases e' : c b = c d
  · rw [if_pos e] at h; rw [if_pos e'] at h'; rw [if_pos (e.trans e')]; simp at h h' ⊢; exact wlt_tr _ _ _ h h'
  · rw [if_neg e'] at h'; rw [if_neg (by omega)]; simp at h' ⊢; omega
  · rw [if_neg e] at h; rw [if_neg (by omega)]; simp at h ⊢; omega
  · rw [if_neg e] at h; rw [if_neg e'] at h'; simp at h h'; rw [if_neg (by omega)]; simp; omega
theorem ahead_tot (c : Word → Nat) {a b : Word} (hne : a ≠ b) (h : ¬ aheadC c a b = true) : aheadC c b a = true := by
  unfold aheadC at h ⊢
  by_cases e : c a = c b
  · rw [if_pos e] at h; rw [if_pos e.symm]; simp at h ⊢; exact wlt_of h hne
  · rw [if_neg e] at h; rw [if_neg (Ne.symm e)]; simp at h ⊢; omega

/-- The map of frequencies over the words ks. -/
def fFreq (c : Word → Nat) (ks : List Word) (u : Word) : Option Value := if u ∈ ks then some (.int .i64 (c u)) else none

/-- c counts nothing outside ks. -/
def Off (c : Word → Nat) (ks : List Word) : Prop := ∀ u, u ∉ ks → c u = 0
theorem fFreq_getD {c : Word → Nat} {ks : List Word} (h : Off c ks) (u : Word) : (fFreq c ks u).getD (.int .i64 0) = .int .i64 (c u) := by
  unfold fFreq
  by_cases hu : u ∈ ks
  · simp [hu]
  · simp [hu, h u hu]

theorem ahead_any (c : Word → Nat) (ks : List Word) (bf : Nat) (a b : Word) (w : World) (h : MapFn w bf kStr (fFreq c ks)) (ho : Off c ks) : Calls Tryz.prog 86 #[.map (some bf), .string (str a), .string (str b)] w fun e w' => e = .returned (.bool (aheadC c a b)) ∧ w' = w := by
  have hl := fun u => h.lookup_v (P := Tryz.prog) (t := 103) keyStr Tryz.underlying103 (zero3 _) u
  simp only [fFreq_getD ho, kStr] at hl
  by_cases e : c a = c b
  · have hne : ((c a : Int) != (c b : Int)) = false := by simp; omega
    have HE : Hid (aheadC c a b = Op.bytesLess (str a).toList (str b).toList) := by
      show _ = _
      rw [str_toList, str_toList, less_eq]; unfold aheadC; rw [if_pos e]
    clear e
    go_enter Tryz.func86, Tryz.ntmps86
    go_wp2
    go_ret
    exact ⟨by rw [HE.out]; rfl, rfl⟩
  · have hne : ((c a : Int) != (c b : Int)) = true := by simp; omega
    have HE : Hid (aheadC c a b = decide (c b < c a)) := by
      show _ = _
      unfold aheadC; rw [if_neg e]
    clear e
    go_enter Tryz.func86, Tryz.ntmps86
    go_wp2
    go_ret
    exact ⟨by rw [HE.out]; rfl, rfl⟩
end Go.Proofs.Qxb6500357aGreat
