import Derived.Test.Qxb6500357aGreatText
import Derived.Laws.StructEq
namespace Go.Proofs.Qxb6500357aGreat
open Go.RowKit Go.Tag
set_option linter.unusedVariables false
set_option linter.unusedSimpArgs false
theorem eq108 (w : World) (a b a' b' : Int) (c c' : List UInt8) : (Op.equalIn 10000 88 (.agg #[.int .i64 a, .int .i64 b, .string (str c)]) (.agg #[.int .i64 a', .int .i64 b', .string (str c')])).run Tryz.prog w = .ok (decide (a = a' ∧ b = b' ∧ c = c')) w := by
  rw [run_equalIn_agg w 9999 88 _ _ (by kernel_rfl) (by kernel_rfl)]
  simp [Program.fieldsOf, Tryz.underlying88, go_sem, str_toList]
  by_cases h1 : a = a' <;> by_cases h2 : b = b' <;> by_cases h3 : c = c' <;> simp [h1, h2, h3]
theorem eq106 (w : World) (a a' : Int) (c c' : List UInt8) : (Op.equalIn 10000 78 (.agg #[.int .i64 a, .string (str c)]) (.agg #[.int .i64 a', .string (str c')])).run Tryz.prog w = .ok (decide (a = a' ∧ c = c')) w := by
  rw [run_equalIn_agg w 9999 78 _ _ (by kernel_rfl) (by kernel_rfl)]
  simp [Program.fieldsOf, Tryz.underlying78, go_sem, str_toList]
  by_cases h1 : a = a' <;> by_cases h3 : c = c' <;> simp [h1, h3]
theorem eq36 (w : World) (a b d a' b' d' : Int) (c c' : List UInt8) : (Op.equalIn 10000 40 (.agg #[.int .i64 a, .int .i64 b, .int .i64 d, .string (str c)]) (.agg #[.int .i64 a', .int .i64 b', .int .i64 d', .string (str c')])).run Tryz.prog w = .ok (decide (a = a' ∧ b = b' ∧ d = d' ∧ c = c')) w := by
  rw [run_equalIn_agg w 9999 40 _ _ (by kernel_rfl) (by kernel_rfl)]
  simp [Program.fieldsOf, Tryz.underlying40, go_sem, str_toList]
  by_cases h1 : a = a' <;> by_cases h2 : b = b' <;> by_cases h4 : d = d' <;> by_cases h3 : c = c' <;> simp [h1, h2, h3, h4]

def sameDoc (a b : Int) (c : List UInt8) (a' b' : Int) (c' : List UInt8) : Bool := decide (a = a' ∧ b = b' ∧ c = c')
def sameAns (a b d : Int) (c : List UInt8) (a' b' d' : Int) (c' : List UInt8) : Bool := decide (a = a' ∧ b = b' ∧ d = d' ∧ c = c')
theorem eqDoc (w : World) (a b a' b' : Int) (c c' : List UInt8) : (Op.equalIn 10000 88 (.agg #[.int .i64 a, .int .i64 b, .string (str c)]) (.agg #[.int .i64 a', .int .i64 b', .string (str c')])).run Tryz.prog w = .ok (sameDoc a b c a' b' c') w := eq108 w a b a' b' c c'
theorem eqAns (w : World) (a b d a' b' d' : Int) (c c' : List UInt8) : (Op.equalIn 10000 40 (.agg #[.int .i64 a, .int .i64 b, .int .i64 d, .string (str c)]) (.agg #[.int .i64 a', .int .i64 b', .int .i64 d', .string (str c')])).run Tryz.prog w = .ok (sameAns a b d c a' b' d' c') w := eq36 w a b d a' b' d' c c'
theorem sameDoc_true (a b : Int) (c : List UInt8) : sameDoc a b c a b c = true := by simp [sameDoc]
theorem sameAns_true (a b d : Int) (c : List UInt8) : sameAns a b d c a b d c = true := by simp [sameAns]
theorem ck106 (em : Bool) (n : Nat) (w : World) (k : Int × List UInt8) : (Instr.checkKey em (n + 2) 78 (kPair k)).run Tryz.prog w = .ok () w := by
  rw [Instr.checkKey]
  have h3 : ∀ a, (Instr.checkKey em (n + 1) 3 (.int .i64 a)).run Tryz.prog w = .ok () w := fun a => MapKept.run_checkKey Tryz.underlying3 (by simp [MapKept.IsKey]) em n
  have h9 : ∀ a, (Instr.checkKey em (n + 1) 9 (.string a)).run Tryz.prog w = .ok () w := fun a => MapKept.run_checkKey Tryz.underlying9 (by simp [MapKept.IsKey]) em n
  simp [run_underlying Tryz.underlying78, kPair, go_sem, h3, h9]
theorem keyPair : KeyOK Tryz.prog 78 kPair := by
  refine keyOK_pair Tryz.underlying78 (fun w a b => ?_) (fun em w k => ck106 em 9998 w k)
  have h : (Op.equal 78 (kPair a) (kPair b)).run Tryz.prog w = .ok (decide (a.1 = b.1 ∧ a.2 = b.2)) w := eq106 w a.1 b.1 a.2 b.2
  have e : decide (a = b) = decide (a.1 = b.1 ∧ a.2 = b.2) := by rw [decide_eq_decide, Prod.ext_iff]
  rw [e]; exact h
end Go.Proofs.Qxb6500357aGreat
